/- A denotation in continuation form of the model's code: what a function's text asks of what follows it. Conditions: none. -/
import Derived.Orders
import Derived.LoopN
import Derived.Scope
import Derived.OrdersIn
import Derived.LoopNIn
import Derived.RangeFuncIn
import Derived.Laws.Sem
import Derived.KernelRfl
import Derived.Laws.World
import Derived.Laws.StructEq
section
set_option linter.unusedVariables false
set_option linter.unusedSimpArgs false
namespace Go.Proofs.Ytmmbepdghpjgeaa.Den
open Go

abbrev ER := Ending → World → Prop
abbrev WP := World → Prop
abbrev VK := Value → WP
abbrev V1 := Value → WP
abbrev V2 := Value → V1
abbrev V3 := Value → V2
abbrev V4 := Value → V3
abbrev V5 := Value → V4
abbrev V6 := Value → V5
abbrev V7 := Value → V6
abbrev V8 := Value → V7
abbrev V9 := Value → V8
abbrev V10 := Value → V9
abbrev V11 := Value → V10
abbrev V12 := Value → V11
abbrev V13 := Value → V12
abbrev V14 := Value → V13
abbrev V15 := Value → V14
abbrev V16 := Value → V15
abbrev Env := Nat → Value

def upd (e : Env) (d : Nat) (v : Value) : Env := fun t => bif Nat.beq t d then v else e t
def updO (e : Env) : Option Nat → Value → Env
  | some d, v => upd e d v
  | none, _ => e
def ev (e : Env) : Operand → Value
  | .tmp t => e t
  | .const v => v
  | .global g => .pointer (some ⟨g, 0, none⟩)
  | .func f => .func (.func f) #[] #[]

/-- Array.map, so that the kernel can reckon it. -/
def amap {α β : Type} (f : α → β) (a : Array α) : Array β := ⟨a.toList.map f⟩
theorem amap_eq {α β : Type} (f : α → β) (a : Array α) : amap f a = a.map f := by
  cases a; simp [amap]
/-! ### pure operations -/
def pv (o : Option Value) (K : VK) : WP := match o with | some v => K v | none => fun _ => False
def pickO (c a b : Value) : Option Value := match c with | .bool t => some (bif t then a else b) | _ => none
def nilO (v : Value) : Option Value := match v with
  | .pointer (some a) => some (.pointer (some a))
  | .iface t u => some (.iface t u)
  | .func (.func f) a b => some (.func (.func f) a b)
  | _ => none
def faO (off : Nat) (v : Value) : Option Value := match v with
  | .pointer (some a) => some (.pointer (some (a.add off)))
  | _ => none
def ixA (n sz : Nat) (v i : Value) : Option Value := match v, i with
  | .pointer (some a), .int _ j => if 0 ≤ j ∧ j < (n : Int) then some (.pointer (some (a.add (j.toNat * sz)))) else none
  | _, _ => none
def ixS (sz : Nat) (v i : Value) : Option Value := match v, i with
  | .slice (some a) n _, .int _ j => if 0 ≤ j ∧ j < (n : Int) then some (.pointer (some (a.add (j.toNat * sz)))) else none
  | _, _ => none
def ixStr (v i : Value) : Option Value := match v, i with
  | .string s, .int _ j => if 0 ≤ j then (match s[j.toNat]? with | some b => some (.int .u8 b.toNat) | none => none) else none
  | _, _ => none
def fld1 (off : Nat) (v : Value) : Option Value := match v with | .agg cs => cs[off]? | _ => none
def fldN (off n : Nat) (v : Value) : Option Value := match v with | .agg cs => some (.agg (cs.extract off (off + n))) | _ => none
def ixV1 (n : Nat) (v i : Value) : Option Value := match v, i with
  | .agg cs, .int _ j => if 0 ≤ j ∧ j < (n : Int) then cs[j.toNat * 1]? else none
  | _, _ => none
def ixVN (n sz : Nat) (v i : Value) : Option Value := match v, i with
  | .agg cs, .int _ j => if 0 ≤ j ∧ j < (n : Int) then some (.agg (cs.extract (j.toNat * sz) (j.toNat * sz + sz))) else none
  | _, _ => none
def bitsI (op : BinOp) (k : IntKind) (a b : Int) : Option Value :=
  let x := BitVec.ofInt k.bits a
  let y := BitVec.ofInt k.bits b
  match op with
  | .and => some (.int k (k.wrap (x &&& y).toNat))
  | .or => some (.int k (k.wrap (x ||| y).toNat))
  | .xor => some (.int k (k.wrap (x ^^^ y).toNat))
  | .andNot => some (.int k (k.wrap (x &&& ~~~y).toNat))
  | _ => none
def bin (op : BinOp) (x y : Value) : Option Value := match x, y with
  | .int k a, .int k' b => match op with
    | .shl => if b < 0 then none else some (.int k (k.wrap (a * 2 ^ (min b.toNat k.bits))))
    | .shr => if b < 0 then none else some (.int k (a.fdiv (2 ^ (min b.toNat k.bits))))
    | .add => if k = k' then some (.int k (k.wrap (a + b))) else none
    | .sub => if k = k' then some (.int k (k.wrap (a - b))) else none
    | .mul => if k = k' then some (.int k (k.wrap (a * b))) else none
    | .quo => if k = k' ∧ b ≠ 0 then some (.int k (k.wrap (a.tdiv b))) else none
    | .rem => if k = k' ∧ b ≠ 0 then some (.int k (a.tmod b)) else none
    | .eql => if k = k' then some (.bool (a == b)) else none
    | .neq => if k = k' then some (.bool (a != b)) else none
    | .lss => if k = k' then some (.bool (decide (a < b))) else none
    | .leq => if k = k' then some (.bool (decide (a ≤ b))) else none
    | .gtr => if k = k' then some (.bool (decide (a > b))) else none
    | .geq => if k = k' then some (.bool (decide (a ≥ b))) else none
    | op => if k = k' then bitsI op k a b else none
  | _, _ => none
def binB (op : BinOp) (x y : Value) : Option Value := match x, y with
  | .bool a, .bool b => match op with
    | .eql => some (.bool (a == b))
    | .neq => some (.bool (!(a == b)))
    | _ => none
  | _, _ => none
def binS (op : BinOp) (x y : Value) : Option Value := match x, y with
  | .string a, .string b => match op with
    | .add => if ((a.size + b.size : Nat) : Int) > IntKind.i64.max then none else some (.string (a ++ b))
    | .eql => some (.bool (a.toList == b.toList))
    | .neq => some (.bool !(a.toList == b.toList))
    | .lss => some (.bool (Op.bytesLess a.toList b.toList))
    | .leq => some (.bool (Op.bytesLess a.toList b.toList || a.toList == b.toList))
    | .gtr => some (.bool !(Op.bytesLess a.toList b.toList || a.toList == b.toList))
    | .geq => some (.bool !(Op.bytesLess a.toList b.toList))
    | _ => none
  | _, _ => none
def eqNilP (x : Value) : Option Value := match x with | .pointer a => some (.bool a.isNone) | _ => none
def neNilP (x : Value) : Option Value := match x with | .pointer a => some (.bool !a.isNone) | _ => none
def eqNilS (x : Value) : Option Value := match x with | .slice a _ _ => some (.bool a.isNone) | _ => none
def neNilS (x : Value) : Option Value := match x with | .slice a _ _ => some (.bool !a.isNone) | _ => none
def unO (op : UnOp) (x : Value) : Option Value := match op, x with
  | .not, .bool b => some (.bool !b)
  | .neg, .int k n => some (.int k (k.wrap (0 - n)))
  | .xor, .int k n => bitsI .xor k (if k.signed then -1 else k.max) n
  | _, _ => none
def cvI (k : IntKind) (x : Value) : Option Value := match x with | .int _ n => some (.int k (k.wrap n)) | _ => none
def extO (i : Nat) (x : Value) : Option Value := match x with | .tuple vs => vs[i]? | _ => none
def arrO (n : Nat) (x : Value) : Option Value := match x with | .slice a len _ => if len < n then none else some (.pointer a) | _ => none
def lenS (x : Value) : Option Value := match x with | .slice _ n _ => some (.int .i64 n) | _ => none
def lenStr (x : Value) : Option Value := match x with | .string s => some (.int .i64 s.size) | _ => none
def boundO (x : Option Value) (y d : Nat) : Option Nat := match x with
  | some (.int _ i) => if 0 ≤ i ∧ i ≤ (y : Int) then some i.toNat else none
  | none => some d
  | _ => none
def slS (sz : Nat) (x : Value) (lo hi : Option Value) : Option Value := match x with
  | .slice a len cap => match boundO hi cap len with
    | some h => match boundO lo h 0 with
      | some l => some (.slice (if cap = l then a else a.map (·.add (l * sz))) (h - l) (cap - l))
      | none => none
    | none => none
  | _ => none
def slA (n sz : Nat) (x : Value) (lo hi : Option Value) : Option Value := match x with
  | .pointer (some a) => match boundO hi n n with
    | some h => match boundO lo h 0 with
      | some l => some (.slice (some (if n = l then a else a.add (l * sz))) (h - l) (n - l))
      | none => none
    | none => none
  | _ => none
def slStr (x : Value) (lo hi : Option Value) : Option Value := match x with
  | .string s => match boundO hi s.size s.size with
    | some h => match boundO lo h 0 with
      | some l => some (.string (s.extract l h))
      | none => none
    | none => none
  | _ => none
def min2I (x y : Value) : Option Value := match x, y with
  | .int k a, .int _ b => some (.int k (if b < a then b else a))
  | _, _ => none
def max2I (x y : Value) : Option Value := match x, y with
  | .int k a, .int _ b => some (.int k (if a < b then b else a))
  | _, _ => none
/-- The cells of a struct or array literal: its zero value with the given parts (place, size, value) laid in. -/
def buildL : List Value → List (Nat × Nat × Value) → Option (List Value)
  | cells, [] => some cells
  | cells, (off, sz, v) :: rest =>
    if v.cells.size ≠ sz ∨ off + sz > cells.length then none
    else buildL (cells.take off ++ v.cells.toList ++ cells.drop (off + sz)) rest
def bldO (zero : List Value) (parts : List (Nat × Nat × Value)) : Option Value :=
  match buildL zero parts with | some l => some (.agg l.toArray) | none => none

/-! ### operations on the world -/
def retK (R : ER) (K : VK) : ER
  | .returned v, w => K v w
  | .panicked ch, w => R (.panicked ch) w
  | .outgrown, _ => False
def stepK (P : Program) (R : ER) (K : VK) : Result Next → Prop
  | .ok (.value v) w => K v w
  | .ok .skip w => K undef w
  | .ok (.enter f args) w => Calls P f args w (retK R K)
  | .ok (.row row args) w => Rows P row args w fun v w' => K v w'
  | .ok (.round l f tmps assign body) w => RoundIn Fence.wide 0 P l f tmps assign body w (retK R K)
  | .halt (.panic v) w => R (.panicked [{ v, recovered := false }]) w
  | _ => False
def semV (P : Program) (R : ER) (s : Sem Next) (K : VK) : WP := fun w => stepK P R K (s.run P w)
def valV (P : Program) (R : ER) (s : Sem Value) (K : VK) : WP := fun w => match s.run P w with
  | .ok v w' => K v w'
  | .halt (.panic v) w' => R (.panicked [{ v, recovered := false }]) w'
  | _ => False
def unitV (P : Program) (R : ER) (s : Sem Unit) (K : VK) : WP := fun w => match s.run P w with
  | .ok _ w' => K undef w'
  | .halt (.panic v) w' => R (.panicked [{ v, recovered := false }]) w'
  | _ => False
def stab : List World → Addr → Value → Prop → Prop
  | [], _, _, G => G
  | w :: ws, a, c, G => w.cell? a = some c ∧ stab ws a c G
def ld1 (v : Value) (K : VK) : WP := fun w => match v with
  | .pointer (some a) => match w.cell? a with | some c => K c w | none => False
  | _ => False
def ld1S (ws : List World) (v : Value) (K : VK) : WP := fun w => match v with
  | .pointer (some a) => match w.cell? a with | some c => stab ws a c (K c w) | none => False
  | _ => False
def cellsAt (w : World) (a : Addr) (i : Nat) : Nat → Option (List Value)
  | 0 => some []
  | n + 1 => match w.cell? (a.add i) with
    | some c => match cellsAt w a (i + 1) n with | some l => some (c :: l) | none => none
    | none => none
def stabN : List World → Addr → Nat → List Value → Prop → Prop
  | [], _, _, _, G => G
  | w :: ws, a, n, cs, G => cellsAt w a 0 n = some cs ∧ stabN ws a n cs G
def ldN (n : Nat) (v : Value) (K : VK) : WP := fun w => match v with
  | .pointer (some a) => match cellsAt w a 0 n with | some cs => K (.agg cs.toArray) w | none => False
  | _ => False
def ldNS (ws : List World) (n : Nat) (v : Value) (K : VK) : WP := fun w => match v with
  | .pointer (some a) => match cellsAt w a 0 n with | some cs => stabN ws a n cs (K (.agg cs.toArray) w) | none => False
  | _ => False
def scalar : Value → Bool
  | .agg _ => false
  | .tuple _ => false
  | _ => true
def st1 (v x : Value) (K : VK) : WP := fun w => match v with
  | .pointer (some a) => scalar x = true ∧ (w.cell? a).isSome = true ∧ w.frozen? a = false ∧ K undef (w.setCell a x)
  | _ => False
def stCells (a : Addr) : List Value → Nat → WP → WP
  | [], _, G => G
  | c :: cs, i, G => fun w => scalar c = true ∧ (w.cell? (a.add i)).isSome = true ∧ w.frozen? (a.add i) = false ∧ stCells a cs (i + 1) G (w.setCell (a.add i) c)
def stN (n : Nat) (v x : Value) (K : VK) : WP := fun w => match v, x with
  | .pointer (some a), .agg cs => cs.size = n ∧ stCells a cs.toList 0 (K undef) w
  | _, _ => False
def bx (t : TypeId) (v : Value) (K : VK) : WP := fun w => K (.pointer (some ⟨w.heap.size, 0, none⟩)) (w.alloc (.cells v.cells t))
def al (P : Program) (t : TypeId) (K : VK) : WP := fun w => match (P.info? t).bind (·.zero) with
  | some z => K (.pointer (some ⟨w.heap.size, 0, none⟩)) (w.alloc (.cells z.cells t))
  | none => False
def cal (P : Program) (R : ER) (f : FuncId) (args : Array Value) (K : VK) : WP := fun w => Calls P f args w (retK R K)
def enterOk (P : Program) (f : FuncId) : Bool := match P.funcs[f]? with | some fn => fn.body.isSome | none => false
def calD (P : Program) (R : ER) (v : Value) (args : Array Value) (K : VK) : WP := match v with
  | .func (.func f) first captured => bif enterOk P f then cal P R f (first ++ args ++ captured) K else semV P R (do let d ← Deferred.ofValue v args; invoke d.target d.args) K
  | _ => semV P R (do let d ← Deferred.ofValue v args; invoke d.target d.args) K
def ivk (P : Program) (R : ER) (recv : Value) (name : String) (args : Array Value) (K : VK) : WP :=
  semV P R (invoke (.fn (.method name) #[]) (#[recv] ++ args)) K
def blt (P : Program) (R : ER) (b : Builtin) (argTypes : Array TypeId) (type : TypeId) (consts : Array Bool) (args : Array Value) (K : VK) : WP :=
  semV P R (builtin b argTypes type consts args) K
@[reducible] def mem (F : World → WP) : WP := fun w => F w w
@[reducible] def drewV (F : WP) : WP := fun w => F w.drew
def gd (v : Value) (want : Bool) (F : VK → WP) (K : VK) : WP := match v with
  | .bool b => bif b == want then F K else K undef
  | _ => K undef
def cnd (v : Value) (A B : WP) : WP := match v with
  | .bool b => bif b then A else B
  | _ => fun _ => False
def exN (F : Nat → WP) : WP := fun w => ∃ n, F n w

/-! ### the operations by the type tables -/
def isAggO (P : Program) (t : TypeId) : Option Bool := match P.underlying t with
  | some (.struct _) => some true
  | some (.array _ _) => some true
  | some _ => some false
  | none => none
def szO (P : Program) (t : TypeId) : Option Nat := (P.info? t).map (·.size)
def partsO (P : Program) (t : TypeId) (e : Env) (parts : List (Nat × Operand)) : Option (List (Nat × Nat × Value)) := match P.underlying t with
  | some (.struct fs) => parts.mapM fun p => match fs[p.1]? with
    | some f => match szO P f.type with | some s => some (f.offset, s, ev e p.2) | none => none
    | none => none
  | some (.array _ el) => match szO P el with
    | some s => some (parts.map fun p => (p.1 * s, s, ev e p.2))
    | none => none
  | _ => none
/-- May a literal of this type be built here: its zero value's cells, and each part's place and size. -/
def fieldsSized (P : Program) (t : TypeId) : Bool := match P.underlying t with
  | some (.struct fs) => fs.toList.all fun f => (szO P f.type).isSome
  | some (.array _ el) => (szO P el).isSome
  | _ => false
def placeO (P : Program) (t : TypeId) (i : Nat) : Option (Nat × Nat) := match P.underlying t with
  | some (.struct fs) => match fs[i]? with
    | some f => match szO P f.type with | some s => some (f.offset, s) | none => none
    | none => none
  | some (.array _ el) => match szO P el with | some s => some (i * s, s) | none => none
  | _ => none
def placesO (P : Program) (t : TypeId) : List (Nat × Operand) → Option (List (Nat × Nat × Operand))
  | [] => some []
  | (i, x) :: r => match placeO P t i with
    | some (o, s) => match placesO P t r with | some l => some ((o, s, x) :: l) | none => none
    | none => none
def evParts (e : Env) : List (Nat × Nat × Operand) → List (Nat × Nat × Value)
  | [] => []
  | (o, s, x) :: r => (o, s, ev e x) :: evParts e r
/-! ### '==' at structs of plain cells -/
def leavesF (P : Program) (rc : TypeId → Option (List Nat)) : Nat → List Field → Option (List Nat)
  | _, [] => some []
  | off, f :: fs => bif f.name == "_" || !(Nat.beq f.offset off) then none else match rc f.type, szO P f.type with
    | some l, some s => bif Nat.beq l.length s then (match leavesF P rc (off + s) fs with | some r => some (l ++ r) | none => none) else none
    | _, _ => none
/-- The kinds of a type's cells, where all of them are numbers, bools, strings. -/
def leaves (P : Program) : Nat → TypeId → Option (List Nat)
  | 0, _ => none
  | d + 1, t => match P.underlying t with
    | some (.int _) => some [0]
    | some .bool => some [1]
    | some .string => some [2]
    | some (.struct fs) => bif P.stoodInHeld t then none else leavesF P (leaves P d) 0 fs.toList
    | _ => none
def eqLeaf : Nat → Value → Value → Option Bool
  | 0, .int k a, .int k' b => if k = k' then some (a == b) else none
  | 1, .bool a, .bool b => some (a == b)
  | 2, .string a, .string b => some (a == b)
  | _, _, _ => none
def eqCells : List Nat → List Value → List Value → Option Bool
  | [], [], [] => some true
  | k :: ks, x :: xs, y :: ys => match eqLeaf k x y, eqCells ks xs ys with
    | some a, some b => some (a && b)
    | _, _ => none
  | _, _, _ => none
def eqAgg (ks : List Nat) (x y : Value) : Option Value := match x, y with
  | .agg xs, .agg ys => match eqCells ks xs.toList ys.toList with | some b => some (.bool b) | none => none
  | _, _ => none
def neAgg (ks : List Nat) (x y : Value) : Option Value := match x, y with
  | .agg xs, .agg ys => match eqCells ks xs.toList ys.toList with | some b => some (.bool !b) | none => none
  | _, _ => none
def binFn (P : Program) (op : BinOp) (t : TypeId) (x y : Operand) : Option (Env → Option Value) := match P.underlying t with
  | some (.int _) => some fun e => bin op (ev e x) (ev e y)
  | some .bool => some fun e => binB op (ev e x) (ev e y)
  | some .string => some fun e => binS op (ev e x) (ev e y)
  | some (.pointer _) => match op, y with
    | .eql, .const (.pointer none) => some fun e => eqNilP (ev e x)
    | .neq, .const (.pointer none) => some fun e => neNilP (ev e x)
    | _, _ => none
  | some (.slice _) => match op, y with
    | .eql, .const (.slice none 0 0) => some fun e => eqNilS (ev e x)
    | .neq, .const (.slice none 0 0) => some fun e => neNilS (ev e x)
    | _, _ => none
  | some (.struct _) => match leaves P 20 t, P.eqGuardType P.depth t with
    | some ks, false => match op with
      | .eql => some fun e => eqAgg ks (ev e x) (ev e y)
      | .neq => some fun e => neAgg ks (ev e x) (ev e y)
      | _ => none
    | _, _ => none
  | _ => none
def pureFn (P : Program) : Op → Option (Env → Option Value)
  | .move x => some fun e => some (ev e x)
  | .assign x => some fun e => some (ev e x)
  | .pick c a b => some fun e => pickO (ev e c) (ev e a) (ev e b)
  | .nilCheck x => some fun e => nilO (ev e x)
  | .fieldAddr t x f => match P.underlying t with
    | some (.struct fs) => match fs[f]? with
      | some fd => match szO P fd.type with
        | some (_ + 1) => some fun e => faO fd.offset (ev e x)
        | _ => none
      | none => none
    | _ => none
  | .indexAddr t x i => match P.underlying t with
    | some (.array n el) => match szO P el with | some s => some fun e => ixA n s (ev e x) (ev e i) | none => none
    | some (.slice el) => match szO P el with | some s => some fun e => ixS s (ev e x) (ev e i) | none => none
    | _ => none
  | .index t x i => match P.underlying t with
    | some .string => some fun e => ixStr (ev e x) (ev e i)
    | some (.array n el) => match isAggO P el, szO P el with
      | some true, some s => some fun e => ixVN n s (ev e x) (ev e i)
      | some false, some 1 => some fun e => ixV1 n (ev e x) (ev e i)
      | _, _ => none
    | _ => none
  | .field t x f => match P.underlying t with
    | some (.struct fs) => match fs[f]? with
      | some fd => match isAggO P fd.type, szO P fd.type with
        | some true, some s => some fun e => fldN fd.offset s (ev e x)
        | some false, some _ => some fun e => fld1 fd.offset (ev e x)
        | _, _ => none
      | none => none
    | _ => none
  | .binOp op t x y _ => binFn P op t x y
  | .unOp op _ x => some fun e => unO op (ev e x)
  | .convert s d x => match P.underlying s, P.underlying d with
    | some (.int _), some (.int k) => some fun e => cvI k (ev e x)
    | _, _ => none
  | .makeInterface t x => match P.underlying t with
    | some (.interface _) => none
    | some _ => some fun e => some (.iface t (ev e x))
    | none => none
  | .makeFunc fn first captured => some fun e => some (.func fn (amap (ev e) first) (amap (ev e) captured))
  | .extract x i => some fun e => extO i (ev e x)
  | .build t parts => match (P.info? t).bind (·.zero), placesO P t parts.toList, fieldsSized P t with
    | some z, some l, true => some fun e => bldO z.cells.toList (evParts e l)
    | _, _, _ => none
  | .slice t x lo hi none => match P.underlying t with
    | some (.slice el) => match szO P el with | some s => some fun e => slS s (ev e x) (lo.map (ev e)) (hi.map (ev e)) | none => none
    | some (.array n el) => match szO P el with | some s => some fun e => slA n s (ev e x) (lo.map (ev e)) (hi.map (ev e)) | none => none
    | some .string => some fun e => slStr (ev e x) (lo.map (ev e)) (hi.map (ev e))
    | _ => none
  | .call { callee := .builtin .len, args := ⟨[x]⟩, argTypes := ⟨[t]⟩ } => match P.underlying t with
    | some (.slice _) => some fun e => lenS (ev e x)
    | some .string => some fun e => lenStr (ev e x)
    | some (.array n _) => some fun _ => some (.int .i64 n)
    | _ => none
  | .call { callee := .builtin .min, args := ⟨[x, y]⟩, argTypes := ⟨[t, _]⟩ } => match P.underlying t with
    | some (.int _) => some fun e => min2I (ev e x) (ev e y)
    | _ => none
  | .call { callee := .builtin .max, args := ⟨[x, y]⟩, argTypes := ⟨[t, _]⟩ } => match P.underlying t with
    | some (.int _) => some fun e => max2I (ev e x) (ev e y)
    | _ => none
  | .sliceToArrayPointer t x => match P.underlying t with
    | some (.array n _) => some fun e => arrO n (ev e x)
    | _ => none
  | _ => none
def ldK (P : Program) (ws : List World) (t : TypeId) (v : Value) (K : VK) : WP := match isAggO P t with
  | some true => match szO P t with
    | some n => match ws with | [] => ldN n v K | _ :: _ => ldNS ws n v K
    | none => fun _ => False
  | some false => match ws with | [] => ld1 v K | _ :: _ => ld1S ws v K
  | none => fun _ => False
def stK (P : Program) (t : TypeId) (v x : Value) (K : VK) : WP := match isAggO P t with
  | some true => match szO P t with
    | some n => stN n v x K
    | none => fun _ => False
  | some false => match szO P t with
    | some 1 => st1 v x K
    | _ => fun _ => False
  | none => fun _ => False
/-- What is neither pure nor a load. -/
def effK (P : Program) (R : ER) (o : Oper) (e : Env) (K : VK) : WP := match o.op with
  | .store t a x => stK P t (ev e a) (ev e x) K
  | .alloc t => al P t K
  | .box t x => bx t (ev e x) K
  | .fieldAddr t x f => valV P R (Instr.fieldAt t (ev e x) f) K
  | .binOp op t x y _ => valV P R (do eqGuard op t x y (ev e x) (ev e y); binOp op t (ev e x) (ev e y)) K
  | .convert s d x => valV P R (convert s d (ev e x)) K
  | .build t parts => valV P R (Instr.build t (amap (fun (i, x) => (i, ev e x)) parts)) K
  | .buildSlice t n parts => valV P R (Instr.buildSlice t n (amap (fun (i, x) => (i, ev e x)) parts)) K
  | .makeMap t r => valV P R (Instr.makeMap t (r.map (ev e))) K
  | .makeSlice t l c => valV P R (Instr.makeSlice t (ev e l) (ev e c)) K
  | .slice t x lo hi mx => valV P R (Instr.sliceAt t (ev e x) (lo.map (ev e)) (hi.map (ev e)) (mx.map (ev e))) K
  | .index t x i => valV P R (Instr.index t (ev e x) (ev e i)) K
  | .lookup t x i ok => valV P R (Instr.lookup t (ev e x) (ev e i) ok) K
  | .mapUpdate t m k x => unitV P R (Instr.mapUpdate t (ev e m) (ev e k) (ev e x)) K
  | .insert t m k x => unitV P R (Instr.mapUpdate t (ev e m) (ev e k) (ev e x)) K
  | .mapEntry t m k => valV P R (Instr.mapEntry t (ev e m) (ev e k)) K
  | .entryStore t m s x => unitV P R (Instr.entryStore t (ev e m) (ev e s) (ev e x)) K
  | .range t x => valV P R (Instr.range t (ev e x)) K
  | .next it s => valV P R (Instr.next (ev e it) s o.type) K
  | .entry it => valV P R (Instr.entry (ev e it)) K
  | .typeAssert x t a ok => valV P R (Instr.typeAssert (ev e x) t a ok) K
  | .sliceToArrayPointer t x => valV P R (Instr.arrayAt t (ev e x)) K
  | .panic x => valV P R (Instr.panic (ev e x)) K
  | .call c => match c.callee with
    | .value (.func f) => bif enterOk P f then cal P R f (amap (ev e) c.args) K else semV P R (execOp (ev e) o) K
    | .value f => calD P R (ev e f) (amap (ev e) c.args) K
    | .invoke recv name => ivk P R (ev e recv) name (amap (ev e) c.args) K
    | .builtin b => blt P R b c.argTypes o.type (amap (fun | .const _ => true | _ => false) c.args) (amap (ev e) c.args) K
  | _ => fun _ => False
/-- Equality that asks the world. -/
def eqK (P : Program) (R : ER) (op : BinOp) (t : TypeId) (x y : Operand) (a b : Value) (K : VK) : WP := valV P R (do eqGuard op t x y a b; binOp op t a b) K
/-- One operation; 'ws': worlds at which a load must read the same. -/
def opK (P : Program) (R : ER) (ws : List World) (o : Oper) (e : Env) (K : VK) : WP := match pureFn P o.op with
  | some f => pv (f e) K
  | none => match o.op with
    | .load t a => ldK P ws t (ev e a) K
    | _ => effK P R o e K
def guardTmp (ops : Array Oper) (j : Nat) : Option Nat := (ops[j]?).bind (·.dst)
def gOp (P : Program) (R : ER) (ops : Array Oper) (ws : List World) (o : Oper) (e : Env) (K : VK) : WP := match o.guard with
  | none => opK P R ws o e K
  | some (j, want) => match guardTmp ops j with
    | some t => gd (e t) want (opK P R ws o e) K
    | none => K undef
def denOps (P : Program) (R : ER) (ops : Array Oper) : List Oper → Env → (Env → WP) → WP
  | [], e, K => K e
  | o :: rest, e, K => gOp P R ops [] o e fun v => denOps P R ops rest (updO e o.dst v) K

/-! ### regions whose order is open -/
/-- What has been met: an effect and the world it began in; a load that was wanted or not, and what it read. -/
inductive HE where
  | eff (w : World)
  | ld (on : Bool) (t : TypeId) (x v : Value)
abbrev Hist := List (Nat × HE)
def isPure (P : Program) (o : Oper) : Bool := (pureFn P o.op).isSome
def isLoad (o : Oper) : Bool := match o.op with | .load _ _ => true | _ => false
/-- Which operations stand ahead of each, over one edge or several (as bits). -/
def befStep (acc : List Nat) (o : Oper) : Nat := o.after.toList.foldl (fun s e => bif Region.binds .any e then s ||| 2 ^ e.on ||| acc.getD e.on 0 else s) 0
def befs : List Oper → List Nat → List Nat
  | [], acc => acc
  | o :: r, acc => befs r (acc ++ [befStep acc o])
/-- Does i stand ahead of j? -/
def ordd (L : List Nat) (i j : Nat) : Bool := (L.getD j 0).testBit i
def worlds (L : List Nat) (j : Nat) : Hist → List World
  | [] => []
  | (i, .eff w) :: h => bif ordd L i j then worlds L j h else w :: worlds L j h
  | (_, .ld _ _ _ _) :: h => worlds L j h
/-- The loads that do not stand ahead of j: they must read the same behind j. -/
def loadsH (L : List Nat) (j : Nat) : Hist → List (Bool × TypeId × Value × Value)
  | [] => []
  | (i, .ld on t x v) :: h => bif ordd L i j then loadsH L j h else (on, t, x, v) :: loadsH L j h
  | (_, .eff _) :: h => loadsH L j h
def rd1 (x v : Value) (G : WP) : WP := fun w => (match x with | .pointer (some a) => w.cell? a = some v | _ => False) ∧ G w
def rdN (n : Nat) (x v : Value) (G : WP) : WP := fun w => (match x, v with | .pointer (some a), .agg cs => cellsAt w a 0 n = some cs.toList | _, _ => False) ∧ G w
def ck (on : Bool) (F : WP → WP) (G : WP) : WP := bif on then F G else G
def onV (v : Value) (b : Bool) : Bool := match v with | .bool c => c == b | _ => false
def rdK (P : Program) (t : TypeId) (x v : Value) (G : WP) : WP := match isAggO P t with
  | some true => match szO P t with | some n => rdN n x v G | none => fun _ => False
  | some false => rd1 x v G
  | none => fun _ => False
def stabL (P : Program) : List (Bool × TypeId × Value × Value) → WP → WP
  | [], G => G
  | (on, t, x, v) :: r, G => ck on (rdK P t x v) (stabL P r G)
/-- The guard of an operation: is it wanted? -/
def want (ops : Array Oper) (o : Oper) (e : Env) : Bool := match o.guard with
  | none => true
  | some (j, b) => match guardTmp ops j with
    | some t => onV (e t) b
    | none => false
def dOp (P : Program) (R : ER) (ops : Array Oper) (L : List Nat) (i : Nat) (o : Oper) (K : Hist → Env → WP) (h : Hist) (e : Env) : WP :=
  match pureFn P o.op with
  | some _ => gOp P R ops [] o e fun v => K h (updO e o.dst v)
  | none => match o.op with
    | .load t a => gOp P R ops (worlds L i h) o e fun v => K ((i, .ld (want ops o e) t (ev e a) v) :: h) (updO e o.dst v)
    | _ => mem fun wi => gOp P R ops [] o e fun v => stabL P (loadsH L i h) (K ((i, .eff wi) :: h) (updO e o.dst v))
def denD (P : Program) (R : ER) (ops : Array Oper) (L : List Nat) : Nat → List Oper → Hist → Env → (Env → WP) → WP
  | _, [], _, e, K => K e
  | i, o :: rest, h, e, K => dOp P R ops L i o (fun h' e' => denD P R ops L (i + 1) rest h' e' K) h e
/-- May i be taken ahead of j, where the order leaves it open? -/
def pairOk (P : Program) (ops : Array Oper) (L : List Nat) (i j : Nat) : Bool := match ops[i]?, ops[j]? with
  | some oi, some oj => ordd L i j || (oi.apart ops oj && (isPure P oi || isPure P oj || isLoad oi || isLoad oj))
  | _, _ => true
def edgesBack (ops : Array Oper) (j : Nat) : Bool := match ops[j]? with
  | some o => o.after.toList.all fun e => !Region.binds .any e || decide (e.on < j)
  | none => true
def calmL (P : Program) (ops : Array Oper) (L : List Nat) : Bool :=
  (List.range ops.size).all fun j => (List.range j).all fun i => pairOk P ops L i j
/-- May the region be read in the order of its text? -/
def calm (P : Program) (ops : Array Oper) : Bool := calmL P ops (befs ops.toList [])
def comOk (P : Program) (ops : Array Oper) (L : List Nat) (listed : Array Bool) (i : Nat) : Bool :=
  (List.range ops.size).all fun j => Nat.beq i j || listed.getD j true || pairOk P ops L i j
def allW : List WP → WP
  | [] => fun _ => True
  | [x] => x
  | x :: r => fun w => x w ∧ allW r w
/-- The region in an order that is open: what may be taken first is taken first; where nothing may, each way. -/
def denT (P : Program) (R : ER) (ops : Array Oper) (L : List Nat) (K : Env → WP) : Nat → Array Bool → Hist → Env → WP
  | 0, _, _, e => K e
  | n + 1, listed, h, e =>
    let one : Nat → WP := fun i => match ops[i]? with
      | some o => dOp P R ops L i o (fun h' e' => denT P R ops L K n (listed.setIfInBounds i true) h' e') h e
      | none => fun _ => False
    match Region.ready .any ops listed with
    | [] => K e
    | r :: rs => match (r :: rs).find? (comOk P ops L listed) with
      | some i => one i
      | none => allW ((r :: rs).map one)

/-- In a region whose order is open no call may panic. -/
def noR : ER := fun _ _ => False
/-! ### code -/
structure Kont where
  n : Env → WP
  x : Nat → Env → WP
  r : Env → WP
def inB (id : Nat) (k : Kont) : Kont := { k with x := fun i e => bif Nat.beq i id then k.n e else k.x i e }
/-- Rounds of a loop whose body means D: at most n. -/
def iterL (D : Env → Kont → WP) : Nat → Env → Kont → WP
  | 0, _, _ => fun _ => False
  | n + 1, e, k => D e { k with n := fun e' => iterL D n e' k }
def den (P : Program) (R : ER) : Code → Env → Kont → WP
  | .skip, e, k => k.n e
  | .label _, e, k => k.n e
  | .region _ ops false, e, k => denOps P R ops ops.toList e k.n
  | .region _ ops true, e, k => drewV (bif calm P ops then denD P noR ops (befs ops.toList []) 0 ops.toList [] e k.n else denT P noR ops (befs ops.toList []) k.n ops.size (Array.replicate ops.size false) [] e)
  | .seq a b, e, k => den P R a e { k with n := fun e' => den P R b e' k }
  | .cond c t f, e, k => cnd (ev e c) (den P R t e k) (den P R f e k)
  | .block id b, e, k => den P R b e (inB id k)
  | .loop b, e, k => exN fun n => iterL (den P R b) n e k
  | .scope b, e, k => den P R b e k
  | .exit id, e, k => k.x id e
  | .ret, e, k => k.r e
  | _, _, _ => fun _ => False
end Go.Proofs.Ytmmbepdghpjgeaa.Den
end

section
set_option linter.unusedVariables false
set_option linter.unusedSimpArgs false
namespace Go.Proofs.Ytmmbepdghpjgeaa.Den
open Go

theorem run_underlying' {P : Program} {t : TypeId} {d : TypeDesc} {w : World} (h : P.underlying t = some d) : (underlying t).run P w = .ok d w := by
  simp [underlying, program, Sem.run, h, Sem.run_bind, Result.andThen]
theorem run_sizeOf' {P : Program} {t : TypeId} {s : Nat} {w : World} (h : szO P t = some s) : (sizeOf t).run P w = .ok s w := by
  unfold szO at h
  cases hi : P.info? t with
  | none => simp [hi] at h
  | some i => simp [hi] at h; simp [sizeOf, typeInfo, program, Sem.run, hi, Sem.run_bind, Result.andThen, h]
theorem run_isAgg' {P : Program} {t : TypeId} {b : Bool} {w : World} (h : isAggO P t = some b) : (isAgg t).run P w = .ok b w := by
  unfold isAggO at h
  unfold isAgg
  cases hu : P.underlying t with
  | none => simp [hu] at h
  | some d =>
    rw [Sem.run_bind, run_underlying' hu]
    simp only [hu] at h
    cases d <;> simp_all [Result.andThen]
theorem run_value {P : Program} {s : Sem Value} {v : Value} {w w' : World} (h : s.run P w = .ok v w') : (do pure (Next.value (← s)) : Sem Next).run P w = .ok (.value v) w' := by
  simp [Sem.run_bind, h, Result.andThen]

section
variable {P : Program} {w : World}
theorem run_asIntOf (k : IntKind) (n : Int) : (asIntOf (.int k n)).run P w = .ok (k, n) w := rfl
theorem run_sureAddr (a : Addr) : (Instr.sureAddr (.pointer (some a))).run P w = .ok a w := rfl

theorem s_fieldAddr {t f s : Nat} {fs : Array Field} {fd : Field} {x v : Value} (hu : P.underlying t = some (.struct fs)) (hf : fs[f]? = some fd)
    (hs : szO P fd.type = some (s + 1)) (h : faO fd.offset x = some v) : (Instr.fieldAt t x f).run P w = .ok v w := by
  unfold faO at h
  split at h
  · injection h with h; subst h
    simp [Instr.fieldAt, Sem.run_bind, run_underlying' hu, Result.andThen, hf, run_sureAddr, fieldPlace, run_sizeOf' hs]
  · cases h
theorem s_arr {t n el : Nat} {x v : Value} (hu : P.underlying t = some (.array n el)) (h : arrO n x = some v) : (Instr.arrayAt t x).run P w = .ok v w := by
  unfold arrO at h
  split at h
  · rename_i a len c
    split at h
    · cases h
    · rename_i hlt
      injection h with h; subst h
      simp [Instr.arrayAt, Sem.run_bind, run_underlying' hu, Result.andThen, hlt]
  · cases h
theorem s_indexA {t n el s : Nat} {x i v : Value} (hu : P.underlying t = some (.array n el)) (hs : szO P el = some s) (h : ixA n s x i = some v) :
    (Instr.indexAt t x i).run P w = .ok v w := by
  unfold ixA at h
  split at h
  · rename_i a k j
    split at h
    · rename_i hb; injection h with h; subst h
      simp [Instr.indexAt, Sem.run_bind, run_underlying' hu, Result.andThen, run_sureAddr, run_asIntOf, run_sizeOf' hs, hb]
    · cases h
  · cases h
theorem s_indexS {t el s : Nat} {x i v : Value} (hu : P.underlying t = some (.slice el)) (hs : szO P el = some s) (h : ixS s x i = some v) :
    (Instr.indexAt t x i).run P w = .ok v w := by
  unfold ixS at h
  split at h
  · rename_i a n c k j
    split at h
    · rename_i hb; injection h with h; subst h
      simp [Instr.indexAt, Sem.run_bind, run_underlying' hu, Result.andThen, run_sureAddr, run_asIntOf, run_sizeOf' hs, hb]
    · cases h
  · cases h
theorem s_ixStr {t : Nat} {x i v : Value} (hu : P.underlying t = some .string) (h : ixStr x i = some v) :
    (Instr.index t x i).run P w = .ok v w := by
  unfold ixStr at h
  split at h
  · rename_i s k j
    split at h
    · rename_i hb
      split at h
      · rename_i b hs; injection h with h; subst h
        simp [Instr.index, Sem.run_bind, run_underlying' hu, Result.andThen, run_asIntOf, hb, hs]
      · cases h
    · cases h
  · cases h
theorem s_part1 {t off : Nat} {cs : Array Value} {v : Value} (ha : isAggO P t = some false) (h : cs[off]? = some v) : (part t cs off).run P w = .ok v w := by
  simp [part, Sem.run_bind, run_isAgg' ha, Result.andThen, h]
theorem s_partN {t off s : Nat} {cs : Array Value} (ha : isAggO P t = some true) (hs : szO P t = some s) : (part t cs off).run P w = .ok (.agg (cs.extract off (off + s))) w := by
  simp [part, Sem.run_bind, run_isAgg' ha, Result.andThen, run_sizeOf' hs]
theorem s_ixV1 {t n el : Nat} {x i v : Value} (hu : P.underlying t = some (.array n el)) (ha : isAggO P el = some false) (hs : szO P el = some 1) (h : ixV1 n x i = some v) :
    (Instr.index t x i).run P w = .ok v w := by
  unfold ixV1 at h
  split at h
  · rename_i cs k j
    split at h
    · rename_i hb
      simp [Instr.index, Sem.run_bind, run_underlying' hu, Result.andThen, run_asIntOf, hb, run_sizeOf' hs, s_part1 ha h] at h ⊢
      exact s_part1 ha (by simpa using h) ▸ rfl
    · cases h
  · cases h
theorem s_ixVN {t n el s : Nat} {x i v : Value} (hu : P.underlying t = some (.array n el)) (ha : isAggO P el = some true) (hs : szO P el = some s) (h : ixVN n s x i = some v) :
    (Instr.index t x i).run P w = .ok v w := by
  unfold ixVN at h
  split at h
  · rename_i cs k j
    split at h
    · rename_i hb; injection h with h; subst h
      simp [Instr.index, Sem.run_bind, run_underlying' hu, Result.andThen, run_asIntOf, hb, run_sizeOf' hs, s_partN ha hs]
    · cases h
  · cases h
theorem s_field1 {t f : Nat} {fs : Array Field} {fd : Field} {x v : Value} (hu : P.underlying t = some (.struct fs)) (hf : fs[f]? = some fd)
    (ha : isAggO P fd.type = some false) (h : fld1 fd.offset x = some v) : (Instr.field t x f).run P w = .ok v w := by
  unfold fld1 at h
  split at h
  · rename_i cs
    simp [Instr.field, Sem.run_bind, run_underlying' hu, Result.andThen, hf, asAgg, s_part1 ha h]
  · cases h
theorem s_fieldN {t f s : Nat} {fs : Array Field} {fd : Field} {x v : Value} (hu : P.underlying t = some (.struct fs)) (hf : fs[f]? = some fd)
    (ha : isAggO P fd.type = some true) (hs : szO P fd.type = some s) (h : fldN fd.offset s x = some v) : (Instr.field t x f).run P w = .ok v w := by
  unfold fldN at h
  split at h
  · rename_i cs; injection h with h; subst h
    simp [Instr.field, Sem.run_bind, run_underlying' hu, Result.andThen, hf, asAgg, s_partN ha hs]
  · cases h

theorem s_binI {op : BinOp} {t : Nat} {x y v : Value} (h : bin op x y = some v) : (binOp op t x y).run P w = .ok v w := by
  unfold bin at h
  split at h
  · rename_i k a k' b
    cases op <;> simp only [bitsI] at h <;> (split at h) <;> first
      | (cases h; done)
      | (rename_i hk; subst hk; injection h with h; subst h; simp only [binOp, ne_eq, not_true_eq_false, if_false]; rfl)
      | (rename_i hk; obtain ⟨rfl, hb⟩ := hk; injection h with h; subst h; simp only [binOp, ne_eq, not_true_eq_false, if_false, Op.intDiv, hb]; rfl)
      | (rename_i hb; injection h with h; subst h; simp only [binOp, Op.shift, hb, if_false]; rfl)
  · cases h
theorem s_eqGuardI {op : BinOp} {t : Nat} {x y : Operand} {a b : Value} (ha : a ≠ .nilIface) (hb : ∀ cs, a ≠ .agg cs) : (eqGuard op t x y a b).run P w = .ok () w := by
  unfold eqGuard
  cases a <;> first | exact absurd rfl ha | exact absurd rfl (hb _) | (cases op <;> rfl)
theorem bin_fst {op : BinOp} {x y v : Value} (h : bin op x y = some v) : x ≠ .nilIface ∧ (∀ cs, x ≠ .agg cs) := by
  unfold bin at h
  split at h
  · simp
  · cases h
theorem run_equal_bool {t : Nat} {a b : Bool} (hu : P.underlying t = some .bool) : (Op.equal t (.bool a) (.bool b)).run P w = .ok (a == b) w := by
  have : ∀ d, (Op.equalIn (d + 1) t (.bool a) (.bool b)).run P w = .ok (a == b) w := by
    intro d; rw [Op.equalIn, Sem.run_bind, run_underlying' hu]; rfl
  exact this 9999
theorem run_equal_nil {t el : Nat} {a : Option Addr} (hu : P.underlying t = some (.pointer el)) : (Op.equal t (.pointer a) (.pointer none)).run P w = .ok a.isNone w := by
  have : ∀ d, (Op.equalIn (d + 1) t (.pointer a) (.pointer none)).run P w = .ok a.isNone w := by
    intro d; rw [Op.equalIn, Sem.run_bind, run_underlying' hu]; cases a <;> rfl
  exact this 9999
theorem s_binB {op : BinOp} {t : Nat} {x y v : Value} (hu : P.underlying t = some .bool) (h : binB op x y = some v) : (binOp op t x y).run P w = .ok v w := by
  unfold binB at h
  split at h
  · rename_i a b
    cases op <;> first
      | (cases h; done)
      | (injection h with h; subst h
         show Sem.run P (do pure (Value.bool (← Op.equal t (.bool a) (.bool b)))) w = _
         rw [Sem.run_bind, run_equal_bool hu]; rfl)
      | (injection h with h; subst h
         show Sem.run P (do pure (Value.bool (!(← Op.equal t (.bool a) (.bool b))))) w = _
         rw [Sem.run_bind, run_equal_bool hu]; rfl)
  · cases h
theorem binB_fst {op : BinOp} {x y v : Value} (h : binB op x y = some v) : x ≠ .nilIface ∧ (∀ cs, x ≠ .agg cs) := by
  unfold binB at h
  split at h
  · simp
  · cases h
theorem s_binS {op : BinOp} {t : Nat} {x y v : Value} (h : binS op x y = some v) : (binOp op t x y).run P w = .ok v w := by
  unfold binS at h
  split at h
  · rename_i a b
    cases op <;> first
      | (cases h; done)
      | (injection h with h; subst h; rfl)
      | (simp only at h; split at h
         · cases h
         · rename_i hb; injection h with h; subst h
           show Sem.run P (Op.stringOp .add a b) w = _
           simp only [Op.stringOp, hb, if_false]; rfl)
  · cases h
theorem binS_fst {op : BinOp} {x y v : Value} (h : binS op x y = some v) : x ≠ .nilIface ∧ (∀ cs, x ≠ .agg cs) := by
  unfold binS at h
  split at h
  · simp
  · cases h
theorem s_eqNil {t el : Nat} {x v : Value} (hu : P.underlying t = some (.pointer el)) (h : eqNilP x = some v) : (binOp .eql t x (.pointer none)).run P w = .ok v w := by
  unfold eqNilP at h
  split at h
  · rename_i a; injection h with h; subst h
    show Sem.run P (do pure (Value.bool (← Op.equal t (.pointer a) (.pointer none)))) w = _
    rw [Sem.run_bind, run_equal_nil hu]; rfl
  · cases h
theorem s_neNil {t el : Nat} {x v : Value} (hu : P.underlying t = some (.pointer el)) (h : neNilP x = some v) : (binOp .neq t x (.pointer none)).run P w = .ok v w := by
  unfold neNilP at h
  split at h
  · rename_i a; injection h with h; subst h
    show Sem.run P (do pure (Value.bool (!(← Op.equal t (.pointer a) (.pointer none))))) w = _
    rw [Sem.run_bind, run_equal_nil hu]; rfl
  · cases h
theorem run_equal_nilS {t el : Nat} {a : Option Addr} {n c : Nat} (hu : P.underlying t = some (.slice el)) : (Op.equal t (.slice a n c) (.slice none 0 0)).run P w = .ok a.isNone w := by
  have : ∀ d, (Op.equalIn (d + 1) t (.slice a n c) (.slice none 0 0)).run P w = .ok a.isNone w := by
    intro d; rw [Op.equalIn, Sem.run_bind, run_underlying' hu]; cases a <;> rfl
  exact this 9999
theorem s_eqNilS {t el : Nat} {x v : Value} (hu : P.underlying t = some (.slice el)) (h : eqNilS x = some v) : (binOp .eql t x (.slice none 0 0)).run P w = .ok v w := by
  unfold eqNilS at h
  split at h
  · rename_i a n c; injection h with h; subst h
    show Sem.run P (do pure (Value.bool (← Op.equal t (.slice a n c) (.slice none 0 0)))) w = _
    rw [Sem.run_bind, run_equal_nilS hu]; rfl
  · cases h
theorem s_neNilS {t el : Nat} {x v : Value} (hu : P.underlying t = some (.slice el)) (h : neNilS x = some v) : (binOp .neq t x (.slice none 0 0)).run P w = .ok v w := by
  unfold neNilS at h
  split at h
  · rename_i a n c; injection h with h; subst h
    show Sem.run P (do pure (Value.bool (!(← Op.equal t (.slice a n c) (.slice none 0 0))))) w = _
    rw [Sem.run_bind, run_equal_nilS hu]; rfl
  · cases h
theorem s_unary {op : UnOp} {x v : Value} (h : unO op x = some v) : (Op.unary op x).run P w = .ok v w := by
  unfold unO at h
  split at h
  · injection h with h; subst h; rfl
  · injection h with h; subst h; rfl
  · simp only [bitsI] at h; injection h with h; subst h; rfl
  · cases h
theorem s_convert {s d : Nat} {k0 k : IntKind} {x v : Value} (hs : P.underlying s = some (.int k0)) (hd : P.underlying d = some (.int k)) (h : cvI k x = some v) :
    (convert s d x).run P w = .ok v w := by
  unfold cvI at h
  split at h
  · injection h with h; subst h
    simp [convert, Sem.run_bind, run_underlying' hs, run_underlying' hd, Result.andThen, Conv.intToInt]
  · cases h
theorem run_bound_some {k : IntKind} {i : Int} {y h0 d : Nat} {code : BoundsCode} (h : boundO (some (.int k i)) y d = some h0) : (Instr.sliceBound (.int k i) y code).run P w = .ok h0 w := by
  simp only [boundO] at h
  split at h
  · rename_i hb; injection h with h; subst h
    simp [Instr.sliceBound, Sem.run_bind, run_asIntOf, Result.andThen, hb]
  · cases h
theorem run_bounds {isS : Bool} {len cap l h m : Nat} {lo hi : Option Value} (h1 : boundO hi cap len = some h) (h2 : boundO lo h 0 = some l) :
    (Instr.sliceBounds isS len cap lo hi none).run P w = .ok (l, h, cap) w := by
  unfold Instr.sliceBounds
  have e1 : ∀ code, (match hi with | some v => Instr.sliceBound v cap code | none => pure len : Sem Nat).run P w = .ok h w := by
    intro code
    cases hi with
    | none => simp only [boundO] at h1; injection h1 with h1; subst h1; rfl
    | some v => cases v <;> first | exact run_bound_some h1 | (cases h1; done)
  have e2 : ∀ code, (match lo with | some v => Instr.sliceBound v h code | none => pure 0 : Sem Nat).run P w = .ok l w := by
    intro code
    cases lo with
    | none => simp only [boundO] at h2; injection h2 with h2; subst h2; rfl
    | some v => cases v <;> first | exact run_bound_some h2 | (cases h2; done)
  cases hi with
  | none =>
    have := e1 .sliceB
    cases lo with
    | none => simp_all [Sem.run_bind, Result.andThen]
    | some v => have e := e2 .sliceB; simp_all [Sem.run_bind, Result.andThen]
  | some u =>
    have := e1 (if isS then .sliceAcap else .sliceAlen)
    cases lo with
    | none => simp_all [Sem.run_bind, Result.andThen]
    | some v => have e := e2 .sliceB; simp_all [Sem.run_bind, Result.andThen]
theorem s_slS {t el s : Nat} {x v : Value} {lo hi : Option Value} (hu : P.underlying t = some (.slice el)) (hs : szO P el = some s) (h : slS s x lo hi = some v) :
    (Instr.sliceAt t x lo hi none).run P w = .ok v w := by
  unfold slS at h
  split at h
  · rename_i a len cap
    split at h
    · rename_i hh h1
      split at h
      · rename_i l h2; injection h with h; subst h
        simp [Instr.sliceAt, Instr.slice, Sem.run_bind, run_underlying' hu, Result.andThen, run_bounds (m := 0) h1 h2, run_sizeOf' hs]
      · cases h
    · cases h
  · cases h
theorem s_slA {t n el s : Nat} {x v : Value} {lo hi : Option Value} (hu : P.underlying t = some (.array n el)) (hs : szO P el = some s) (h : slA n s x lo hi = some v) :
    (Instr.sliceAt t x lo hi none).run P w = .ok v w := by
  unfold slA at h
  split at h
  · rename_i a
    split at h
    · rename_i hh h1
      split at h
      · rename_i l h2; injection h with h; subst h
        simp [Instr.sliceAt, Instr.slice, Sem.run_bind, run_underlying' hu, Result.andThen, run_sureAddr, run_bounds (m := 0) h1 h2, run_sizeOf' hs]
      · cases h
    · cases h
  · cases h
theorem s_slStr {t : Nat} {x v : Value} {lo hi : Option Value} (hu : P.underlying t = some .string) (h : slStr x lo hi = some v) :
    (Instr.sliceAt t x lo hi none).run P w = .ok v w := by
  unfold slStr at h
  split at h
  · rename_i s
    split at h
    · rename_i hh h1
      split at h
      · rename_i l h2; injection h with h; subst h
        simp [Instr.sliceAt, Instr.slice, Sem.run_bind, run_underlying' hu, Result.andThen, run_bounds (m := 0) h1 h2]
      · cases h
    · cases h
  · cases h
theorem s_lenS {t el : Nat} {x v : Value} {ty : Nat} (hu : P.underlying t = some (.slice el)) (h : lenS x = some v) : (Builtin.len_ #[t] ty #[x]).run P w = .ok v w := by
  unfold lenS at h
  split at h
  · injection h with h; subst h
    simp [Builtin.len_, Sem.run_bind, run_underlying' hu, Result.andThen, goInt]
  · cases h
theorem s_lenStr {t : Nat} {x v : Value} {ty : Nat} (hu : P.underlying t = some .string) (h : lenStr x = some v) : (Builtin.len_ #[t] ty #[x]).run P w = .ok v w := by
  unfold lenStr at h
  split at h
  · injection h with h; subst h
    simp [Builtin.len_, Sem.run_bind, run_underlying' hu, Result.andThen, goInt]
  · cases h
theorem s_lenA {t n el : Nat} {x : Value} {ty : Nat} (hu : P.underlying t = some (.array n el)) : (Builtin.len_ #[t] ty #[x]).run P w = .ok (.int .i64 n) w := by
  simp [Builtin.len_, Sem.run_bind, run_underlying' hu, Result.andThen, goInt]
theorem s_min {ts : Array TypeId} {ty : Nat} {x y v : Value} (h : min2I x y = some v) : (Builtin.min_ ts ty #[x, y]).run P w = .ok v w := by
  unfold min2I at h
  split at h
  · injection h with h; subst h; rfl
  · cases h
theorem s_max {ts : Array TypeId} {ty : Nat} {x y v : Value} (h : max2I x y = some v) : (Builtin.max_ ts ty #[x, y]).run P w = .ok v w := by
  unfold max2I at h
  split at h
  · injection h with h; subst h; rfl
  · cases h

theorem run_zeroValue' {t : Nat} {z : Value} (h : (P.info? t).bind (·.zero) = some z) : (zeroValue t).run P w = .ok z w := by
  cases hi : P.info? t with
  | none => simp [hi] at h
  | some i => simp [hi] at h; simp [zeroValue, typeInfo, program, Sem.run, hi, Sem.run_bind, Result.andThen, h]
theorem run_mapM_list {α β : Type} (g : α → Sem β) (f : α → β) : ∀ (l : List α), (∀ x ∈ l, ∀ w, (g x).run P w = .ok (f x) w) → (l.mapM g).run P w = .ok (l.map f) w
  | [], _ => rfl
  | x :: l, h => by
    rw [List.mapM_cons, Sem.run_bind, h x (List.mem_cons_self ..)]
    simp only [Result.andThen, Sem.run_bind, run_mapM_list g f l (fun y hy => h y (List.mem_cons_of_mem _ hy))]
    rfl
theorem run_mapM_array {α β : Type} (g : α → Sem β) (f : α → β) (l : Array α) (h : ∀ x ∈ l.toList, ∀ w, (g x).run P w = .ok (f x) w) : (l.mapM g).run P w = .ok (l.map f) w := by
  have : (l.mapM g) = List.toArray <$> l.toList.mapM g := by rw [Array.mapM_eq_mapM_toList]
  rw [this, Sem.run_map, run_mapM_list g f l.toList h]
  simp only [Result.andThen]
  congr 1
  rw [← Array.toList_map]
theorem splice_aux (off : Nat) : ∀ (l : List Value) (k : Nat) (cells : Array Value), off + k + l.length ≤ cells.size →
    ((l.zipIdx k).foldl (fun cs (p : Value × Nat) => cs.setIfInBounds (off + p.2) p.1) cells).toList = cells.toList.take (off + k) ++ l ++ cells.toList.drop (off + k + l.length)
  | [], k, cells, h => by simp
  | c :: l, k, cells, h => by
    simp only [List.zipIdx_cons, List.foldl_cons]
    rw [splice_aux off l (k + 1) _ (by simp at h ⊢; omega)]
    have hk : off + k < cells.size := by simp at h; omega
    rw [Array.toList_setIfInBounds]
    have e1 : (cells.toList.set (off + k) c).take (off + (k + 1)) = cells.toList.take (off + k) ++ [c] := by
      rw [show off + (k + 1) = (off + k) + 1 by omega, List.take_add_one, List.take_set_of_le (by omega)]
      simp [hk]
    have e2 : (cells.toList.set (off + k) c).drop (off + (k + 1) + l.length) = cells.toList.drop (off + k + (c :: l).length) := by
      rw [List.drop_set_of_lt (by omega)]
      congr 1; simp; omega
    rw [e1, e2]; simp
theorem splice (off : Nat) (v cells : Array Value) (h : off + v.size ≤ cells.size) :
    (v.zipIdx.foldl (fun cs (p : Value × Nat) => cs.setIfInBounds (off + p.2) p.1) cells).toList = cells.toList.take off ++ v.toList ++ cells.toList.drop (off + v.size) := by
  have := splice_aux off v.toList 0 cells (by simpa using h)
  rw [← Array.foldl_toList]
  simpa using this
theorem fill_eq (place : Nat → Option (Nat × Nat)) : ∀ (parts : List (Nat × Value)) (cells : Array Value) (l : List (Nat × Nat × Value)) (r : List Value),
    parts.map (fun p => (place p.1).map fun q => (q.1, q.2, p.2)) = l.map some → buildL cells.toList l = some r → Instr.fill place cells parts = some r.toArray
  | [], cells, l, r, hl, h => by
    cases l with
    | nil => simp only [buildL] at h; injection h with h; subst h; simp [Instr.fill]
    | cons => cases hl
  | (i, v) :: parts, cells, l, r, hl, h => by
    cases l with
    | nil => cases hl
    | cons x l =>
      obtain ⟨off, sz, u⟩ := x
      simp only [List.map_cons, List.cons.injEq] at hl
      obtain ⟨h0, hl⟩ := hl
      cases hp : place i with
      | none => simp [hp] at h0
      | some q =>
        simp only [hp, Option.map_some, Option.some.injEq, Prod.mk.injEq] at h0
        obtain ⟨rfl, rfl, rfl⟩ := h0
        simp only [buildL] at h
        split at h
        · cases h
        · rename_i hb
          have hb1 : v.cells.size = q.2 := by omega
          have hb2 : q.1 + v.cells.size ≤ cells.size := by simp at hb; omega
          have hc : (decide (v.cells.size ≠ q.2) || decide (q.1 + v.cells.size > cells.size)) = false := by simp [hb1]; omega
          simp only [Instr.fill, hp]
          rw [if_neg (by simpa using hc)]
          refine fill_eq place parts _ l r hl ?_
          rw [splice _ _ _ hb2, hb1]; exact h
theorem bldO_some {zero : List Value} {parts : List (Nat × Nat × Value)} {v : Value} (h : bldO zero parts = some v) : ∃ r, buildL zero parts = some r ∧ v = .agg r.toArray := by
  unfold bldO at h
  split at h
  · rename_i l hl; injection h with h; exact ⟨l, hl, h.symm⟩
  · cases h
theorem placesO_spec {t : Nat} {e : Env} : ∀ (parts : List (Nat × Operand)) (l : List (Nat × Nat × Operand)), placesO P t parts = some l →
    (parts.map fun (i, x) => (i, ev e x)).map (fun p => (placeO P t p.1).map fun q => (q.1, q.2, p.2)) = (evParts e l).map some
  | [], l, h => by simp only [placesO] at h; injection h with h; subst h; rfl
  | (i, x) :: r, l, h => by
    simp only [placesO] at h
    split at h
    · rename_i o s ho
      split at h
      · rename_i l' hl'; injection h with h; subst h
        simp only [List.map_cons, ho, evParts, Option.map_some, placesO_spec r l' hl']
      · cases h
    · cases h
theorem s_build {t : Nat} {e : Env} {parts : Array (Nat × Operand)} {z v : Value} {l : List (Nat × Nat × Operand)} (hz : (P.info? t).bind (·.zero) = some z)
    (hl : placesO P t parts.toList = some l) (hs : fieldsSized P t = true) (h : bldO z.cells.toList (evParts e l) = some v) :
    (Instr.build t (parts.map fun (i, x) => (i, ev e x))).run P w = .ok v w := by
  obtain ⟨r, hr, rfl⟩ := bldO_some h
  have hp := placesO_spec (e := e) parts.toList l hl
  unfold Instr.build
  rw [Sem.run_bind, run_zeroValue' hz]
  simp only [Result.andThen]
  cases hu : P.underlying t with
  | none => simp [fieldsSized, hu] at hs
  | some d =>
    cases d <;> first | (simp [fieldsSized, hu] at hs; done) | skip
    case array n el =>
      simp only [fieldsSized, hu] at hs
      obtain ⟨s, hs⟩ := Option.isSome_iff_exists.1 hs
      rw [Sem.run_bind, run_underlying' hu]
      simp only [Result.andThen, Sem.run_bind, run_sizeOf' hs]
      have hpl : (fun i => some (i * s, s)) = placeO P t := by funext i; simp [placeO, hu, hs]
      rw [hpl, fill_eq (placeO P t) _ _ _ r (by simpa using hp) hr]
      rfl
    case struct fs =>
      simp only [fieldsSized, hu, List.all_eq_true] at hs
      rw [Sem.run_bind, run_underlying' hu]
      simp only [Result.andThen, Sem.run_bind]
      rw [run_mapM_array _ (fun f => (f.offset, (szO P f.type).getD 0)) fs (fun f hf w => by
        obtain ⟨s, hs⟩ := Option.isSome_iff_exists.1 (hs f hf)
        simp only [Sem.run_bind, run_sizeOf' hs, Result.andThen, hs, Option.getD_some]; rfl)]
      simp only [Result.andThen]
      have hpl : ∀ i, (fs.map (fun f => (f.offset, (szO P f.type).getD 0)))[i]? = placeO P t i := by
        intro i
        rw [Array.getElem?_map]
        unfold placeO
        simp only [hu]
        cases hf : fs[i]? with
        | none => rfl
        | some f =>
          obtain ⟨s, hs⟩ := Option.isSome_iff_exists.1 (hs f (by simpa using Array.mem_of_getElem? hf))
          simp [hs]
      have hpl' : (fun i => (fs.map (fun f => (f.offset, (szO P f.type).getD 0)))[i]?) = placeO P t := funext hpl
      rw [hpl', fill_eq (placeO P t) _ _ _ r (by simpa using hp) hr]
      rfl
end
end Go.Proofs.Ytmmbepdghpjgeaa.Den
end

section
set_option linter.unusedVariables false
set_option linter.unusedSimpArgs false
namespace Go.Proofs.Ytmmbepdghpjgeaa.Den
open Go
section
variable {P : Program} {w : World}
theorem eqCells_app : ∀ {l r : List Nat} {xs ys : List Value} {b : Bool}, eqCells (l ++ r) xs ys = some b → ∃ b1 b2, eqCells l (xs.take l.length) (ys.take l.length) = some b1 ∧ eqCells r (xs.drop l.length) (ys.drop l.length) = some b2 ∧ b = (b1 && b2)
  | [], r, xs, ys, b, h => ⟨true, b, by simp [eqCells], by simpa using h, by simp⟩
  | k :: l, r, xs, ys, b, h => by
    cases xs with
    | nil => simp [eqCells] at h
    | cons x xs =>
      cases ys with
      | nil => simp [eqCells] at h
      | cons y ys =>
        simp only [List.cons_append, eqCells] at h
        split at h
        · rename_i a c h1 h2
          obtain ⟨b1, b2, g1, g2, g3⟩ := eqCells_app h2
          injection h with h
          refine ⟨a && b1, b2, by simp [eqCells, h1, g1], by simpa using g2, by rw [← h, g3, Bool.and_assoc]⟩
        · cases h
theorem eqCells_len : ∀ {l : List Nat} {xs ys : List Value} {b : Bool}, eqCells l xs ys = some b → xs.length = l.length ∧ ys.length = l.length
  | [], xs, ys, b, h => by cases xs <;> cases ys <;> simp [eqCells] at h ⊢
  | k :: l, xs, ys, b, h => by
    cases xs with
    | nil => simp [eqCells] at h
    | cons x xs =>
      cases ys with
      | nil => simp [eqCells] at h
      | cons y ys =>
        simp only [eqCells] at h
        split at h
        · rename_i a c h1 h2
          have := eqCells_len h2
          simp [this.1, this.2]
        · cases h
theorem isAggO_leaf {t : Nat} {d : TypeDesc} (hu : P.underlying t = some d) (h1 : ∀ fs, d ≠ .struct fs) (h2 : ∀ n e, d ≠ .array n e) : isAggO P t = some false := by
  unfold isAggO; rw [hu]
  cases d <;> first | rfl | exact absurd rfl (h1 _) | exact absurd rfl (h2 _ _)
theorem s_equalIn : ∀ (d t : Nat) (ks : List Nat), leaves P d t = some ks → ∀ n, d ≤ n →
    (isAggO P t = some false → ∃ k, ks = [k] ∧ ∀ x y b w, eqLeaf k x y = some b → (Op.equalIn n t x y).run P w = .ok b w) ∧
    (isAggO P t = some true → ∀ (xs ys : Array Value) b w, eqCells ks xs.toList ys.toList = some b → (Op.equalIn n t (.agg xs) (.agg ys)).run P w = .ok b w)
  | 0, t, ks, h, n, hn => by simp [leaves] at h
  | d + 1, t, ks, h, n, hn => by
    obtain ⟨n, rfl⟩ : ∃ m, n = m + 1 := ⟨n - 1, by omega⟩
    unfold leaves at h
    split at h
    · rename_i k hu
      injection h with h; subst h
      have ha := isAggO_leaf hu (by simp) (by simp)
      refine ⟨fun _ => ⟨0, rfl, fun x y b w hb => ?_⟩, fun h => by rw [ha] at h; cases h⟩
      cases x <;> cases y <;> simp only [eqLeaf, reduceCtorEq] at hb
      split at hb
      · rename_i hk; injection hb with hb; subst hk; subst hb
        simp [Op.equalIn, Sem.run_bind, run_underlying' hu, Result.andThen]
      · cases hb
    · rename_i hu
      injection h with h; subst h
      have ha := isAggO_leaf hu (by simp) (by simp)
      refine ⟨fun _ => ⟨1, rfl, fun x y b w hb => ?_⟩, fun h => by rw [ha] at h; cases h⟩
      cases x <;> cases y <;> simp only [eqLeaf, reduceCtorEq] at hb
      injection hb with hb; subst hb
      simp [Op.equalIn, Sem.run_bind, run_underlying' hu, Result.andThen]
    · rename_i hu
      injection h with h; subst h
      have ha := isAggO_leaf hu (by simp) (by simp)
      refine ⟨fun _ => ⟨2, rfl, fun x y b w hb => ?_⟩, fun h => by rw [ha] at h; cases h⟩
      cases x <;> cases y <;> simp only [eqLeaf, reduceCtorEq] at hb
      injection hb with hb; subst hb
      simp [Op.equalIn, Sem.run_bind, run_underlying' hu, Result.andThen]
    · rename_i fs hu
      have hag : isAggO P t = some true := by unfold isAggO; rw [hu]
      refine ⟨fun h => (by rw [hag] at h; cases h), fun _ xs ys b w hb => ?_⟩
      cases hst : P.stoodInHeld t with
      | true => simp [hst] at h
      | false =>
        simp only [hst, cond_false] at h
        have hfo : P.fieldsOf t = fs := by unfold Program.fieldsOf; rw [hu]
        rw [run_equalIn_struct w n t xs ys (by rw [hfo]; exact hu) hst, hfo]
        have key : ∀ (fs : List Field) (off : Nat) (ks : List Nat) (b : Bool), leavesF P (leaves P d) off fs = some ks → eqCells ks (xs.toList.drop off) (ys.toList.drop off) = some b → (Op.eqFields n xs ys fs).run P w = .ok b w := by
          intro fs
          induction fs with
          | nil =>
            intro off ks b h hb
            simp only [leavesF, Option.some.injEq] at h; subst h
            have hl := eqCells_len hb
            have hx : xs.toList.drop off = [] := List.length_eq_zero_iff.1 hl.1
            have hy : ys.toList.drop off = [] := List.length_eq_zero_iff.1 hl.2
            rw [hx, hy] at hb
            simp only [eqCells, Option.some.injEq] at hb; subst hb
            simp [Op.eqFields]
          | cons f fs ih =>
            intro off ks b h hb
            simp only [leavesF] at h
            cases hc : (f.name == "_" || !(Nat.beq f.offset off)) with
            | true => simp [hc] at h
            | false =>
              simp only [hc, cond_false] at h
              simp only [Bool.or_eq_false_iff, beq_eq_false_iff_ne, Bool.not_eq_false'] at hc
              obtain ⟨hc1, hc2⟩ := hc
              have hoff : f.offset = off := Nat.eq_of_beq_eq_true hc2
              split at h
              · rename_i l s h1 h2
                cases hls : Nat.beq l.length s with
                | false => simp [hls] at h
                | true =>
                  simp only [hls, cond_true] at h
                  have hls' : l.length = s := Nat.eq_of_beq_eq_true hls
                  split at h
                  · rename_i r h3
                    injection h with h; subst h
                    obtain ⟨b1, b2, g1, g2, rfl⟩ := eqCells_app hb
                    rw [List.drop_drop, List.drop_drop, hls'] at g2
                    have ihr := ih (off + s) r b2 h3 g2
                    have he := s_equalIn d f.type l h1 n (by omega)
                    have hlen := eqCells_len hb
                    simp only [List.length_drop, List.length_append, hls'] at hlen
                    have step : ∃ a c, (part f.type xs f.offset).run P w = .ok a w ∧ (part f.type ys f.offset).run P w = .ok c w ∧ (Op.equalIn n f.type a c).run P w = .ok b1 w := by
                      cases hag : isAggO P f.type with
                      | none =>
                        exfalso
                        unfold leaves at h1
                        cases d with
                        | zero => simp at h1
                        | succ d =>
                          unfold isAggO at hag
                          split at hag
                          · cases hag
                          · cases hag
                          · cases hag
                          · rename_i hn; simp only [hn] at h1; cases h1
                      | some ag =>
                        cases ag with
                        | true =>
                          refine ⟨_, _, s_partN hag h2, s_partN hag h2, he.2 hag _ _ b1 w ?_⟩
                          rw [hoff]
                          have e : ∀ zs : Array Value, (zs.extract off (off + s)).toList = (zs.toList.drop off).take s := by
                            intro zs; simp [Array.toList_extract, List.extract_eq_take_drop]
                          rw [e, e, ← hls']; exact g1
                        | false =>
                          obtain ⟨k, rfl, he'⟩ := he.1 hag
                          have hs1 : s = 1 := by simpa using hls'.symm
                          subst hs1
                          obtain ⟨a, ha⟩ : ∃ a, xs.toList[off]? = some a := ⟨_, List.getElem?_eq_getElem (by omega)⟩
                          obtain ⟨c, hc⟩ : ∃ c, ys.toList[off]? = some c := ⟨_, List.getElem?_eq_getElem (by omega)⟩
                          refine ⟨a, c, s_part1 hag (by rw [hoff]; simpa using ha), s_part1 hag (by rw [hoff]; simpa using hc), he' a c b1 w ?_⟩
                          have e : ∀ (zs : List Value) (z : Value), zs[off]? = some z → (zs.drop off).take [k].length = [z] := by
                            intro zs z hz
                            obtain ⟨hlt, hz⟩ := List.getElem?_eq_some_iff.1 hz
                            rw [List.drop_eq_getElem_cons hlt, hz]; rfl
                          rw [e _ _ ha, e _ _ hc] at g1
                          simp only [eqCells] at g1
                          split at g1
                          · rename_i p q g3 g4
                            simp only [Option.some.injEq] at g4
                            injection g1 with g1
                            rw [g3, ← g1, ← g4]; simp
                          · cases g1
                    obtain ⟨a, c, s1, s2, s3⟩ := step
                    simp only [Op.eqFields, ne_eq, hc1, not_false_eq_true, if_true, Sem.run_bind, s1, s2, s3, Result.andThen]
                    cases b1 with
                    | true => simpa using ihr
                    | false => simp
                  · cases h
              · cases h
        exact key fs.toList 0 ks b h (by simpa using hb)
    · cases h
theorem s_equalAgg {t : Nat} {ks : List Nat} {xs ys : Array Value} {b : Bool} {fs : Array Field} (hu : P.underlying t = some (.struct fs)) (h : leaves P 20 t = some ks) (hb : eqCells ks xs.toList ys.toList = some b) (w : World) :
    (Op.equalIn 10000 t (.agg xs) (.agg ys)).run P w = .ok b w :=
  (s_equalIn 20 t ks h 10000 (by omega)).2 (by unfold isAggO; rw [hu]) xs ys b w hb
theorem s_binFn {op : BinOp} {t : Nat} {x y : Operand} {e : Env} {f : Env → Option Value} {v : Value} (hf : binFn P op t x y = some f) (hv : f e = some v) :
    (do eqGuard op t x y (ev e x) (ev e y); binOp op t (ev e x) (ev e y) : Sem Value).run P w = .ok v w := by
  unfold binFn at hf
  split at hf
  · injection hf with hf; subst hf
    obtain ⟨h1, h2⟩ := bin_fst hv
    rw [Sem.run_bind, s_eqGuardI h1 h2]; exact s_binI hv
  · rename_i hu
    injection hf with hf; subst hf
    obtain ⟨h1, h2⟩ := binB_fst hv
    rw [Sem.run_bind, s_eqGuardI h1 h2]; exact s_binB hu hv
  · injection hf with hf; subst hf
    obtain ⟨h1, h2⟩ := binS_fst hv
    rw [Sem.run_bind, s_eqGuardI h1 h2]; exact s_binS hv
  · rename_i el hu
    split at hf
    · injection hf with hf; subst hf
      have h1 : ev e x ≠ .nilIface ∧ ∀ cs, ev e x ≠ .agg cs := by
        have hv' : eqNilP (ev e x) = some v := hv
        unfold eqNilP at hv'; split at hv'
        · rename_i h; simp [h]
        · cases hv'
      rw [Sem.run_bind, s_eqGuardI h1.1 h1.2]; exact s_eqNil hu hv
    · injection hf with hf; subst hf
      have h1 : ev e x ≠ .nilIface ∧ ∀ cs, ev e x ≠ .agg cs := by
        have hv' : neNilP (ev e x) = some v := hv
        unfold neNilP at hv'; split at hv'
        · rename_i h; simp [h]
        · cases hv'
      rw [Sem.run_bind, s_eqGuardI h1.1 h1.2]; exact s_neNil hu hv
    · cases hf
  · rename_i el hu
    split at hf
    · injection hf with hf; subst hf
      have h1 : ev e x ≠ .nilIface ∧ ∀ cs, ev e x ≠ .agg cs := by
        have hv' : eqNilS (ev e x) = some v := hv
        unfold eqNilS at hv'; split at hv'
        · rename_i h; simp [h]
        · cases hv'
      rw [Sem.run_bind, s_eqGuardI h1.1 h1.2]; exact s_eqNilS hu hv
    · injection hf with hf; subst hf
      have h1 : ev e x ≠ .nilIface ∧ ∀ cs, ev e x ≠ .agg cs := by
        have hv' : neNilS (ev e x) = some v := hv
        unfold neNilS at hv'; split at hv'
        · rename_i h; simp [h]
        · cases hv'
      rw [Sem.run_bind, s_eqGuardI h1.1 h1.2]; exact s_neNilS hu hv
    · cases hf
  · rename_i fs hu
    split at hf
    · rename_i ks hl hg
      split at hf
      · injection hf with hf; subst hf
        have hv' : eqAgg ks (ev e x) (ev e y) = some v := hv
        unfold eqAgg at hv'; split at hv'
        · rename_i xs ys hx hy
          split at hv'
          · rename_i b hb
            injection hv' with hv'; subst hv'
            rw [hx, hy, Sem.run_bind, run_eqGuard_agg w _ t x y xs ys hg, Result.andThen_ok, run_eql_struct, s_equalAgg hu hl hb]; rfl
          · cases hv'
        · cases hv'
      · injection hf with hf; subst hf
        have hv' : neAgg ks (ev e x) (ev e y) = some v := hv
        unfold neAgg at hv'; split at hv'
        · rename_i xs ys hx hy
          split at hv'
          · rename_i b hb
            injection hv' with hv'; subst hv'
            rw [hx, hy, Sem.run_bind, run_eqGuard_agg w _ t x y xs ys hg, Result.andThen_ok, run_neq_struct, s_equalAgg hu hl hb]; rfl
          · cases hv'
        · cases hv'
      · cases hf
    · cases hf
  · cases hf
theorem run_v {s : Sem Value} {v : Value} (h : s.run P w = .ok v w) : (do pure (Next.value (← s)) : Sem Next).run P w = .ok (.value v) w := run_value h
theorem s_nil {x v : Value} (h : nilO x = some v) (o : Oper) (e : Env) (y : Operand) (ho : o.op = .nilCheck y) (hx : ev e y = x) : (execOp (ev e) o).run P w = .ok (.value v) w := by
  obtain ⟨dst, op, type, pos, after, guard⟩ := o
  dsimp only at ho; subst ho
  unfold nilO at h
  split at h <;> first | (cases h; done) | (injection h with h; subst h; simp only [execOp, hx]; rfl)
theorem exec_builtin {o : Oper} {c : Call} {b : Builtin} {ρ : Operand → Value} (ho : o.op = .call c) (hc : c.callee = .builtin b) :
    execOp ρ o = builtin b c.argTypes o.type (c.args.map fun | .const _ => true | _ => false) (c.args.map ρ) := by
  unfold execOp
  rw [ho]
  simp only [resolve, hc, invoke]
  rfl
theorem pureFn_sound {o : Oper} {e : Env} {f : Env → Option Value} {v : Value} (hf : pureFn P o.op = some f) (hv : f e = some v) :
    (execOp (ev e) o).run P w = .ok (.value v) w := by
  obtain ⟨dst, op, type, pos, after, guard⟩ := o
  dsimp only at hf
  unfold pureFn at hf
  split at hf
  case h_1 x => injection hf with hf; subst hf; injection hv with hv; subst hv; rfl
  case h_2 x => injection hf with hf; subst hf; injection hv with hv; subst hv; rfl
  case h_3 c a b =>
    injection hf with hf; subst hf
    have hv' : pickO (ev e c) (ev e a) (ev e b) = some v := hv
    unfold pickO at hv'
    split at hv'
    · rename_i t ht; injection hv' with hv'; subst hv'; simp only [execOp, ht]; cases t <;> rfl
    · cases hv'
  case h_4 x => injection hf with hf; subst hf; exact s_nil hv _ e x rfl rfl
  case h_5 t x fi =>
    split at hf
    · rename_i fs hu
      split at hf
      · rename_i fd hfd
        split at hf
        · rename_i s hs; injection hf with hf; subst hf; exact run_v (s_fieldAddr hu hfd hs hv)
        · cases hf
      · cases hf
    · cases hf
  case h_6 t x i =>
    split at hf
    · rename_i n el hu
      split at hf
      · rename_i s hs; injection hf with hf; subst hf; exact run_v (s_indexA hu hs hv)
      · cases hf
    · rename_i el hu
      split at hf
      · rename_i s hs; injection hf with hf; subst hf; exact run_v (s_indexS hu hs hv)
      · cases hf
    · cases hf
  case h_7 t x i =>
    split at hf
    · rename_i hu; injection hf with hf; subst hf; exact run_v (s_ixStr hu hv)
    · rename_i n el hu
      split at hf
      · rename_i s ha hs; injection hf with hf; subst hf; exact run_v (s_ixVN hu ha hs hv)
      · rename_i ha hs; injection hf with hf; subst hf; exact run_v (s_ixV1 hu ha hs hv)
      · cases hf
    · cases hf
  case h_8 t x fi =>
    split at hf
    · rename_i fs hu
      split at hf
      · rename_i fd hfd
        split at hf
        · rename_i s ha hs; injection hf with hf; subst hf; exact run_v (s_fieldN hu hfd ha hs hv)
        · rename_i s ha hs; injection hf with hf; subst hf; exact run_v (s_field1 hu hfd ha hv)
        · cases hf
      · cases hf
    · cases hf
  case h_9 op t x y u => exact run_v (s_binFn hf hv)
  case h_10 op t x => injection hf with hf; subst hf; exact run_v (s_unary hv)
  case h_11 s d x =>
    split at hf
    · rename_i k0 k hs hd; injection hf with hf; subst hf; exact run_v (s_convert hs hd hv)
    · cases hf
  case h_12 t x =>
    split at hf
    · cases hf
    · rename_i d hn hd
      injection hf with hf; subst hf; injection hv with hv; subst hv
      refine run_v ?_
      rw [Instr.makeInterface, Sem.run_bind, run_underlying' hd]
      cases d <;> first | rfl | exact absurd rfl (hn _)
    · cases hf
  case h_13 fn first captured => injection hf with hf; subst hf; injection hv with hv; subst hv; rw [amap_eq, amap_eq]; rfl
  case h_14 x i =>
    injection hf with hf; subst hf
    have hv' : extO i (ev e x) = some v := hv
    unfold extO at hv'
    split at hv'
    · rename_i vs hx; refine run_v ?_; simp only [hx, Instr.extract, hv']; rfl
    · cases hv'
  case h_15 t parts =>
    split at hf
    · rename_i z l hz hl hs; injection hf with hf; subst hf; exact run_v (s_build hz hl hs hv)
    · cases hf
  case h_16 t x lo hi =>
    split at hf
    · rename_i el hu
      split at hf
      · rename_i s hs; injection hf with hf; subst hf; exact run_v (s_slS hu hs hv)
      · cases hf
    · rename_i n el hu
      split at hf
      · rename_i s hs; injection hf with hf; subst hf; exact run_v (s_slA hu hs hv)
      · cases hf
    · rename_i hu; injection hf with hf; subst hf; exact run_v (s_slStr hu hv)
    · cases hf
  case h_17 x t =>
    rw [exec_builtin (b := .len) rfl rfl]
    simp only [List.map_toArray, List.map_cons, List.map_nil, builtin]
    change Sem.run P (do pure (Next.value (← Builtin.len_ #[t] type #[ev e x]))) w = _
    split at hf
    · rename_i el hu; injection hf with hf; subst hf; exact run_v (s_lenS hu hv)
    · rename_i hu; injection hf with hf; subst hf; exact run_v (s_lenStr hu hv)
    · rename_i n el hu; injection hf with hf; subst hf; injection hv with hv; subst hv; exact run_v (s_lenA hu)
    · cases hf
  case h_18 x y t u =>
    rw [exec_builtin (b := .min) rfl rfl]
    simp only [List.map_toArray, List.map_cons, List.map_nil, builtin]
    change Sem.run P (do pure (Next.value (← Builtin.min_ #[t, u] type #[ev e x, ev e y]))) w = _
    split at hf
    · injection hf with hf; subst hf; exact run_v (s_min hv)
    · cases hf
  case h_19 x y t u =>
    rw [exec_builtin (b := .max) rfl rfl]
    simp only [List.map_toArray, List.map_cons, List.map_nil, builtin]
    change Sem.run P (do pure (Next.value (← Builtin.max_ #[t, u] type #[ev e x, ev e y]))) w = _
    split at hf
    · injection hf with hf; subst hf; exact run_v (s_max hv)
    · cases hf
  case h_20 t x =>
    split at hf
    · rename_i n el hu; injection hf with hf; subst hf; exact run_v (s_arr hu hv)
    · cases hf
  case h_21 => cases hf

theorem stab_imp {a : Addr} {c : Value} {G : Prop} : ∀ {ws : List World}, stab ws a c G → G
  | [], h => h
  | _ :: ws, h => stab_imp h.2
theorem stabN_imp {a : Addr} {n : Nat} {c : List Value} {G : Prop} : ∀ {ws : List World}, stabN ws a n c G → G
  | [], h => h
  | _ :: ws, h => stabN_imp h.2
theorem run_load1 {a : Addr} {c : Value} (h : w.cell? a = some c) : (load a).run P w = .ok c w := by
  simp [load, Sem.run, h]
theorem run_loadCells {a : Addr} : ∀ (n i : Nat) (acc : Array Value) (l : List Value), cellsAt w a i n = some l → (loadCellsFrom a i n acc).run P w = .ok (acc ++ l.toArray) w
  | 0, i, acc, l, h => by simp only [cellsAt] at h; injection h with h; subst h; simp [loadCellsFrom]
  | n + 1, i, acc, l, h => by
    simp only [cellsAt] at h
    split at h
    · rename_i c hc
      split at h
      · rename_i l' hl'; injection h with h; subst h
        simp only [loadCellsFrom]
        rw [Sem.run_bind, run_load1 hc]
        simp only [Result.andThen]
        rw [run_loadCells n (i + 1) _ l' hl']
        simp
      · cases h
    · cases h
theorem s_load1 {t : Nat} {a : Addr} {c : Value} (ha : isAggO P t = some false) (h : w.cell? a = some c) : (Instr.loadAt t (.pointer (some a))).run P w = .ok c w := by
  rw [Instr.loadAt, Sem.run_bind, run_sureAddr]
  simp only [Result.andThen, loadVar, Sem.run_bind, run_isAgg' ha]
  exact run_load1 h
theorem s_loadN {t n : Nat} {a : Addr} {l : List Value} (ha : isAggO P t = some true) (hs : szO P t = some n) (h : cellsAt w a 0 n = some l) :
    (Instr.loadAt t (.pointer (some a))).run P w = .ok (.agg l.toArray) w := by
  rw [Instr.loadAt, Sem.run_bind, run_sureAddr]
  simp only [Result.andThen, loadVar, Sem.run_bind, run_isAgg' ha, if_true, run_sizeOf' hs, loadCells]
  rw [run_loadCells n 0 #[] l h]
  simp [Result.andThen]
theorem ldK_spec {ws : List World} {t : Nat} {v : Value} {K : VK} (h : ldK P ws t v K w) :
    ∃ c, (Instr.loadAt t v).run P w = .ok c w ∧ K c w := by
  unfold ldK at h
  cases ha : isAggO P t with
  | none => simp only [ha] at h
  | some b =>
    cases b with
    | true =>
      simp only [ha] at h
      cases hs : szO P t with
      | none => simp only [hs] at h
      | some n =>
        simp only [hs] at h
        have : ∃ a l, v = .pointer (some a) ∧ cellsAt w a 0 n = some l ∧ K (.agg l.toArray) w := by
          cases ws with
          | nil =>
            simp only [ldN] at h
            split at h
            · rename_i a
              split at h
              · rename_i l hl; exact ⟨a, l, rfl, hl, h⟩
              · cases h
            · cases h
          | cons w0 ws =>
            simp only [ldNS] at h
            split at h
            · rename_i a
              split at h
              · rename_i l hl; exact ⟨a, l, rfl, hl, stabN_imp h⟩
              · cases h
            · cases h
        obtain ⟨a, l, rfl, hl, hK⟩ := this
        exact ⟨_, s_loadN ha hs hl, hK⟩
    | false =>
      simp only [ha] at h
      have : ∃ a c, v = .pointer (some a) ∧ w.cell? a = some c ∧ K c w := by
        cases ws with
        | nil =>
          simp only [ld1] at h
          split at h
          · rename_i a
            split at h
            · rename_i l hl; exact ⟨a, l, rfl, hl, h⟩
            · cases h
          · cases h
        | cons w0 ws =>
          simp only [ld1S] at h
          split at h
          · rename_i a
            split at h
            · rename_i l hl; exact ⟨a, l, rfl, hl, stab_imp h⟩
            · cases h
          · cases h
      obtain ⟨a, c, rfl, hc, hK⟩ := this
      exact ⟨_, s_load1 ha hc, hK⟩
theorem run_store1 {a : Addr} {x : Value} (hs : scalar x = true) (hc : (w.cell? a).isSome = true) (hf : w.frozen? a = false) (s : Sem Unit) :
    (do store a x; s).run P w = s.run P (w.setCell a x) := by
  obtain ⟨u, hu⟩ := Option.isSome_iff_exists.1 hc
  rw [Sem.run_bind]
  have : (store a x).run P w = .ok () (w.setCell a x) := by
    unfold store
    cases x <;> first | (simp [scalar] at hs; done) | simp [Sem.run, hu, hf]
  rw [this]; rfl
theorem run_stCells {a : Addr} {G : WP} : ∀ (l : List Value) (i : Nat) (w : World), stCells a l i G w → ∃ w', (storeCells a l i).run P w = .ok () w' ∧ G w'
  | [], i, w, h => ⟨w, rfl, h⟩
  | c :: l, i, w, h => by
    obtain ⟨h1, h2, h3, h4⟩ := h
    obtain ⟨w', hr, hg⟩ := run_stCells l (i + 1) _ h4
    refine ⟨w', ?_, hg⟩
    rw [storeCells, run_store1 h1 h2 h3]; exact hr
theorem stK_spec {t : Nat} {v x : Value} {K : VK} (h : stK P t v x K w) : ∃ w', (Instr.storeAt t v x).run P w = .ok () w' ∧ K undef w' := by
  unfold stK at h
  cases ha : isAggO P t with
  | none => simp only [ha] at h
  | some b =>
    cases b with
    | true =>
      simp only [ha] at h
      cases hs : szO P t with
      | none => simp only [hs] at h
      | some n =>
        simp only [hs, stN] at h
        split at h
        · rename_i a cs
          obtain ⟨hn, h⟩ := h
          obtain ⟨w', hr, hg⟩ := run_stCells (P := P) _ _ _ h
          refine ⟨w', ?_, hg⟩
          rw [Instr.storeAt, Sem.run_bind, run_sureAddr]
          simp only [Result.andThen, storeVar, Sem.run_bind, run_sizeOf' hs, Value.cells, hn]
          simpa [Result.andThen] using hr
        · cases h
    | false =>
      simp only [ha] at h
      cases hs : szO P t with
      | none => simp only [hs] at h
      | some n =>
        simp only [hs] at h
        obtain rfl : n = 1 := by
          rcases n with _ | _ | n
          · simp at h
          · rfl
          · simp at h
        simp only [st1] at h
        split at h
        · rename_i a
          obtain ⟨h1, h2, h3, h4⟩ := h
          refine ⟨_, ?_, h4⟩
          rw [Instr.storeAt, Sem.run_bind, run_sureAddr]
          have hc : x.cells = #[x] := by cases x <;> first | rfl | (simp [scalar] at h1; done)
          simp only [Result.andThen, storeVar, Sem.run_bind, run_sizeOf' hs, hc]
          have h0 : a.add 0 = a := by simp [Addr.add]
          have := run_store1 (P := P) (a := a) h1 h2 h3 (pure ())
          simpa [storeCells, h0, Result.andThen] using this
        · cases h
theorem valV_spec {R : ER} {s : Sem Value} {K : VK} (h : valV P R s K w) : stepK P R K ((do pure (Next.value (← s)) : Sem Next).run P w) := by
  unfold valV at h
  rw [Sem.run_bind]
  split at h
  · rename_i hr; rw [hr]; exact h
  · rename_i hr; rw [hr]; exact h
  · cases h
theorem unitV_spec {R : ER} {s : Sem Unit} {K : VK} (h : unitV P R s K w) : stepK P R K ((do s; pure Next.skip : Sem Next).run P w) := by
  unfold unitV at h
  rw [Sem.run_bind]
  split at h
  · rename_i hr; rw [hr]; exact h
  · rename_i hr; rw [hr]; exact h
  · cases h
/-- No function of the program is the one that counts goroutines. -/
def NG (P : Program) : Prop := ∀ (f : Nat) (fn : Func), P.funcs[f]? = some fn → (fn.name == "runtime.NumGoroutine") = false
theorem run_enter (hng : NG P) {f : Nat} {args : Array Value} (h : enterOk P f = true) : (callFunc f args).run P w = .ok (.enter f args) w := by
  unfold enterOk at h
  cases hf : P.funcs[f]? with
  | none => simp [hf] at h
  | some fn =>
    simp only [hf] at h
    have hn := hng f fn hf
    have hb : fn.body.isNone = false := by cases hb : fn.body <;> simp_all
    rw [callFunc, Sem.run_bind]
    simp only [program, Sem.run, Result.andThen, hf, hn, hb]
    rfl
theorem effK_sound (hng : NG P) {R : ER} {o : Oper} {e : Env} {K : VK} (h : effK P R o e K w) : stepK P R K ((execOp (ev e) o).run P w) := by
  obtain ⟨dst, op, type, pos, after, guard⟩ := o
  cases op <;> simp only [effK, amap_eq] at h <;> first
    | exact valV_spec h
    | exact unitV_spec h
    | skip
  case store t a x =>
    obtain ⟨w', hr, hK⟩ := stK_spec h
    simp only [execOp]; rw [Sem.run_bind, hr]; exact hK
  case alloc t =>
    unfold al at h
    split at h
    · rename_i z hz
      simp only [execOp, Instr.alloc]
      rw [Sem.run_bind, Sem.run_bind, run_zeroValue' hz]
      exact h
    · cases h
  case call c =>
    cases hc : c.callee with
    | value f =>
      by_cases hf : ∃ g, f = .func g
      · obtain ⟨g, rfl⟩ := hf
        simp only [hc] at h
        cases hb : enterOk P g with
        | false => rw [hb] at h; exact h
        | true =>
          rw [hb] at h
          simp only [execOp, resolve, hc]
          change stepK P R K ((callFunc g (#[] ++ c.args.map (ev e) ++ #[])).run P w)
          simp only [Array.append_empty, Array.empty_append]
          rw [run_enter hng hb]; exact h
      · have h' : calD P R (ev e f) (c.args.map (ev e)) K w := by
          cases f <;> first | exact absurd ⟨_, rfl⟩ hf | (simp only [hc] at h; exact h)
        have hex : execOp (ev e) { dst := dst, op := .call c, type := type, pos := pos, after := after, guard := guard } =
            (do let d ← Deferred.ofValue (ev e f) (c.args.map (ev e)); invoke d.target d.args) := by simp only [execOp, resolve, hc]
        rw [hex]
        by_cases hv : ∃ g first captured, ev e f = .func (.func g) first captured
        · obtain ⟨g, first, captured, hv⟩ := hv
          rw [hv] at h' ⊢
          simp only [calD] at h'
          cases hb : enterOk P g with
          | false => rw [hb] at h'; exact h'
          | true =>
            rw [hb] at h'
            change stepK P R K ((callFunc g ((first ++ c.args.map (ev e)) ++ captured)).run P w)
            rw [run_enter hng hb]; exact h'
        · unfold calD at h'
          generalize ev e f = vf at h' hv ⊢
          cases vf with
          | func fn first captured =>
            cases fn with
            | func g => exact absurd ⟨g, first, captured, rfl⟩ hv
            | _ => exact h'
          | _ => exact h'
    | invoke recv name =>
      simp only [hc] at h
      have hex : execOp (ev e) { dst := dst, op := .call c, type := type, pos := pos, after := after, guard := guard } =
          (invoke (.fn (.method name) #[]) (#[ev e recv] ++ c.args.map (ev e))) := by simp only [execOp, resolve, hc]; rfl
      rw [hex]; exact h
    | builtin b =>
      simp only [hc] at h
      rw [exec_builtin (b := b) rfl hc]; exact h
theorem opK_sound (hng : NG P) {R : ER} {ws : List World} {o : Oper} {e : Env} {K : VK} (h : opK P R ws o e K w) : stepK P R K ((execOp (ev e) o).run P w) := by
  unfold opK at h
  cases hf : pureFn P o.op with
  | some f =>
    simp only [hf, pv] at h
    cases hv : f e with
    | none => simp only [hv] at h
    | some v => simp only [hv] at h; rw [pureFn_sound hf hv]; exact h
  | none =>
    simp only [hf] at h
    by_cases hl : ∃ t a, o.op = .load t a
    · obtain ⟨t, a, hop⟩ := hl
      simp only [hop] at h
      obtain ⟨c, hr, hK⟩ := ldK_spec h
      have : execOp (ev e) o = (do pure (Next.value (← Instr.loadAt t (ev e a)))) := by simp only [execOp, hop]
      rw [this, run_value hr]; exact hK
    · have h' : effK P R o e K w := by
        generalize hop : o.op = op at h hl
        cases op <;> first | exact absurd ⟨_, _, rfl⟩ hl | exact h
      exact effK_sound hng h'
end
end Go.Proofs.Ytmmbepdghpjgeaa.Den
end

section
set_option linter.unusedVariables false
set_option linter.unusedSimpArgs false
namespace Go.Proofs.Ytmmbepdghpjgeaa.Den
open Go
section
variable {P : Program} {R : ER} {ops : Array Oper}

/-! ### monotone -/
theorem retK_mono {K K' : VK} (h : ∀ v w, K v w → K' v w) : ∀ e w, retK R K e w → retK R K' e w
  | .returned v, w, hh => h v w hh
  | .panicked ch, w, hh => hh
  | .outgrown, _, hh => hh
theorem stepK_mono {K K' : VK} (h : ∀ v w, K v w → K' v w) : ∀ r, stepK P R K r → stepK P R K' r := by
  intro r hr
  cases r with
  | ok n w => cases n <;> simp only [stepK] at hr ⊢ <;> first | exact h _ _ hr | exact Calls.mono hr (retK_mono h) | exact Rows.mono hr (fun _ _ q => h _ _ q) | exact RoundIn.mono hr (retK_mono h)
  | halt x w => cases x <;> simp only [stepK] at hr ⊢ <;> exact hr
theorem semV_mono {K K' : VK} (h : ∀ v w, K v w → K' v w) {s : Sem Next} {w : World} (hh : semV P R s K w) : semV P R s K' w := stepK_mono h _ hh
theorem valV_mono {K K' : VK} (h : ∀ v w, K v w → K' v w) {s : Sem Value} {w : World} (hh : valV P R s K w) : valV P R s K' w := by
  unfold valV at *
  split at hh <;> first | exact h _ _ hh | exact hh
theorem unitV_mono {K K' : VK} (h : ∀ v w, K v w → K' v w) {s : Sem Unit} {w : World} (hh : unitV P R s K w) : unitV P R s K' w := by
  unfold unitV at *
  split at hh <;> first | exact h _ _ hh | exact hh
theorem cal_mono {K K' : VK} (h : ∀ v w, K v w → K' v w) {f : FuncId} {args : Array Value} {w : World} (hh : cal P R f args K w) : cal P R f args K' w :=
  Calls.mono hh (retK_mono h)
theorem stCells_mono {a : Addr} {G G' : WP} (h : ∀ w, G w → G' w) : ∀ (l : List Value) (i : Nat) (w : World), stCells a l i G w → stCells a l i G' w
  | [], _, w, hh => h w hh
  | _ :: l, i, w, ⟨h1, h2, h3, h4⟩ => ⟨h1, h2, h3, stCells_mono h l (i + 1) _ h4⟩
theorem stK_mono {K K' : VK} (h : ∀ v w, K v w → K' v w) {t : Nat} {v x : Value} {w : World} (hh : stK P t v x K w) : stK P t v x K' w := by
  unfold stK at *
  cases ha : isAggO P t with
  | none => simp only [ha] at hh
  | some b =>
    cases b <;> simp only [ha] at hh ⊢
    · cases hs : szO P t with
      | none => simp only [hs] at hh
      | some n =>
        rcases n with _ | _ | n <;> simp only [hs] at hh ⊢
        unfold st1 at *
        cases v with
        | pointer a => cases a with
          | none => exact hh
          | some a => exact ⟨hh.1, hh.2.1, hh.2.2.1, h _ _ hh.2.2.2⟩
        | _ => exact hh
    · cases hs : szO P t with
      | none => simp only [hs] at hh
      | some n =>
        simp only [hs] at hh ⊢
        unfold stN at *
        split at hh
        · exact ⟨hh.1, stCells_mono (h undef) _ _ _ hh.2⟩
        · cases hh
theorem calD_mono {K K' : VK} (h : ∀ v w, K v w → K' v w) {v : Value} {args : Array Value} {w : World} (hh : calD P R v args K w) : calD P R v args K' w := by
  have key : ∀ s : Sem Next, semV P R s K w → semV P R s K' w := fun s => semV_mono h
  unfold calD at *
  cases v with
  | func fn first captured =>
    cases fn with
    | func g =>
      cases hb : enterOk P g with
      | false => simp only [hb, cond_false] at hh ⊢; exact key _ hh
      | true => simp only [hb, cond_true] at hh ⊢; exact cal_mono h hh
    | _ => exact key _ hh
  | _ => exact key _ hh
theorem effK_mono {K K' : VK} (h : ∀ v w, K v w → K' v w) {o : Oper} {e : Env} {w : World} (hh : effK P R o e K w) : effK P R o e K' w := by
  obtain ⟨dst, op, type, pos, after, guard⟩ := o
  cases op <;> simp only [effK, amap_eq] at hh ⊢ <;> first
    | exact valV_mono h hh
    | exact unitV_mono h hh
    | exact stK_mono h hh
    | exact h _ _ hh
    | skip
  case alloc t =>
    unfold al at *
    cases hz : (P.info? t).bind (·.zero) with
    | none => rw [hz] at hh; exact hh
    | some z => rw [hz] at hh; exact h _ _ hh
  case call c =>
    cases hc : c.callee with
    | value f =>
      simp only [hc] at hh
      cases f with
      | func g =>
        dsimp only at hh ⊢
        cases hb : enterOk P g with
        | false => rw [hb] at hh; exact semV_mono h hh
        | true => rw [hb] at hh; exact cal_mono h hh
      | _ => exact calD_mono h hh
    | invoke r n => simp only [hc] at hh; exact semV_mono h hh
    | builtin b => simp only [hc] at hh; exact semV_mono h hh
theorem gd_mono {K K' : VK} (h : ∀ v w, K v w → K' v w) {F : VK → WP} (hF : ∀ w, F K w → F K' w) {v : Value} {want : Bool} {w : World} (hh : gd v want F K w) : gd v want F K' w := by
  unfold gd at *
  cases v with
  | bool b =>
    simp only at hh ⊢
    cases hb : b == want with
    | false => simp only [hb] at hh ⊢; exact h _ _ hh
    | true => simp only [hb] at hh ⊢; exact hF _ hh
  | _ => exact h _ _ hh

/-! ### the operation's value, where it is pure or a load -/
theorem gOp_eq (ws : List World) (o : Oper) (e : Env) (K : VK) (w : World) :
    gOp P R ops ws o e K w = (if want ops o e then opK P R ws o e K w else K undef w) := by
  unfold gOp want
  cases o.guard with
  | none => simp
  | some jb =>
    obtain ⟨j, b⟩ := jb
    cases hg : guardTmp ops j with
    | none => simp [hg]
    | some t =>
      simp only [hg, gd, onV]
      cases e t <;> simp only [Bool.false_eq_true, if_false]
      rename_i c; rcases Bool.eq_false_or_eq_true (c == b) with hc | hc <;> simp only [hc] <;> rfl
def Reads (P : Program) (t : Nat) (x : Value) (w : World) (v : Value) : Prop := ∃ a, x = .pointer (some a) ∧
  ((isAggO P t = some false ∧ w.cell? a = some v) ∨ (∃ n cs, isAggO P t = some true ∧ szO P t = some n ∧ cellsAt w a 0 n = some cs ∧ v = .agg cs.toArray))
theorem stab_iff {a : Addr} {c : Value} {G : Prop} : ∀ {ws : List World}, stab ws a c G ↔ (∀ w ∈ ws, w.cell? a = some c) ∧ G
  | [] => by simp [stab]
  | w :: ws => by simp [stab, stab_iff (ws := ws), and_assoc]
theorem stabN_iff {a : Addr} {n : Nat} {c : List Value} {G : Prop} : ∀ {ws : List World}, stabN ws a n c G ↔ (∀ w ∈ ws, cellsAt w a 0 n = some c) ∧ G
  | [] => by simp [stabN]
  | w :: ws => by simp [stabN, stabN_iff (ws := ws), and_assoc]
theorem ldK_iff {ws : List World} {t : Nat} {x : Value} {K : VK} {w : World} : ldK P ws t x K w ↔ ∃ v, Reads P t x w v ∧ (∀ w' ∈ ws, Reads P t x w' v) ∧ K v w := by
  unfold ldK
  cases ha : isAggO P t with
  | none => simp [Reads, ha]
  | some b =>
    cases b with
    | false =>
      have h1 : ∀ ws : List World, (match ws with | [] => ld1 x K | _ :: _ => ld1S ws x K : WP) w ↔ ∃ a c, x = .pointer (some a) ∧ w.cell? a = some c ∧ (∀ w' ∈ ws, w'.cell? a = some c) ∧ K c w := by
        intro ws
        have : (match ws with | [] => ld1 x K | _ :: _ => ld1S ws x K : WP) w = ld1S ws x K w := by
          cases ws with
          | nil => unfold ld1 ld1S; cases x <;> first | rfl | (rename_i a; cases a <;> first | rfl | (simp only [stab]))
          | cons _ _ => rfl
        rw [this]
        unfold ld1S
        cases x with
        | pointer a => cases a with
          | none => simp
          | some a =>
            simp only [Value.pointer.injEq, Option.some.injEq, exists_and_left]
            cases hc : w.cell? a with
            | none => simp [hc]
            | some c => simp [hc, stab_iff]
        | _ => simp
      refine Iff.trans (h1 ws) ?_
      constructor
      · rintro ⟨a, c, rfl, h2, h3, h4⟩; exact ⟨c, ⟨a, rfl, .inl ⟨ha, h2⟩⟩, fun w' hw' => ⟨a, rfl, .inl ⟨ha, h3 w' hw'⟩⟩, h4⟩
      · rintro ⟨v, ⟨a, rfl, h⟩, h3, h4⟩
        rcases h with ⟨_, h⟩ | ⟨_, _, h, _⟩
        · refine ⟨a, v, rfl, h, fun w' hw' => ?_, h4⟩
          obtain ⟨a', he, h⟩ := h3 w' hw'
          injection he with he; injection he with he; subst he
          rcases h with ⟨_, h⟩ | ⟨_, _, h, _⟩
          · exact h
          · rw [ha] at h; cases h
        · rw [ha] at h; cases h
    | true =>
      simp only
      cases hs : szO P t with
      | none =>
        simp only [false_iff]
        rintro ⟨v, ⟨a, rfl, h⟩, _⟩
        rcases h with ⟨h, _⟩ | ⟨n, _, _, h, _⟩
        · rw [ha] at h; cases h
        · rw [hs] at h; cases h
      | some n =>
        have h1 : ∀ ws : List World, (match ws with | [] => ldN n x K | _ :: _ => ldNS ws n x K : WP) w ↔ ∃ a c, x = .pointer (some a) ∧ cellsAt w a 0 n = some c ∧ (∀ w' ∈ ws, cellsAt w' a 0 n = some c) ∧ K (.agg c.toArray) w := by
          intro ws
          have : (match ws with | [] => ldN n x K | _ :: _ => ldNS ws n x K : WP) w = ldNS ws n x K w := by
            cases ws with
            | nil => unfold ldN ldNS; cases x <;> first | rfl | (rename_i a; cases a <;> first | rfl | (simp only [stabN]))
            | cons _ _ => rfl
          rw [this]
          unfold ldNS
          cases x with
          | pointer a => cases a with
            | none => simp
            | some a =>
              simp only [Value.pointer.injEq, Option.some.injEq, exists_and_left]
              cases hc : cellsAt w a 0 n with
              | none => simp [hc]
              | some c => simp [hc, stabN_iff]
          | _ => simp
        refine Iff.trans (h1 ws) ?_
        constructor
        · rintro ⟨a, c, rfl, h2, h3, h4⟩; exact ⟨_, ⟨a, rfl, .inr ⟨n, c, ha, hs, h2, rfl⟩⟩, fun w' hw' => ⟨a, rfl, .inr ⟨n, c, ha, hs, h3 w' hw', rfl⟩⟩, h4⟩
        · rintro ⟨v, ⟨a, rfl, h⟩, h3, h4⟩
          rcases h with ⟨h, _⟩ | ⟨m, cs, _, hm, h, rfl⟩
          · rw [ha] at h; cases h
          · rw [hs] at hm; injection hm with hm; subst hm
            refine ⟨a, cs, rfl, h, fun w' hw' => ?_, h4⟩
            obtain ⟨a', he, h'⟩ := h3 w' hw'
            injection he with he; injection he with he; subst he
            rcases h' with ⟨h', _⟩ | ⟨m, cs', _, hm, h', he⟩
            · rw [ha] at h'; cases h'
            · rw [hs] at hm; injection hm with hm; subst hm
              injection he with he
              have : cs = cs' := by simpa using congrArg Array.toList he
              subst this; exact h'
theorem rdK_iff {t : Nat} {x v : Value} {G : WP} {w : World} : rdK P t x v G w ↔ Reads P t x w v ∧ G w := by
  unfold rdK
  cases ha : isAggO P t with
  | none => simp [Reads, ha]
  | some b =>
    cases b with
    | false =>
      simp only [rd1]
      refine and_congr_left fun _ => ?_
      cases x with
      | pointer a => cases a with
        | none => simp [Reads]
        | some a => simp [Reads, ha]
      | _ => simp [Reads]
    | true =>
      simp only
      cases hs : szO P t with
      | none => simp [Reads, ha, hs]
      | some n =>
        simp only [rdN]
        refine and_congr_left fun _ => ?_
        cases x with
        | pointer a => cases a with
          | none => simp [Reads]
          | some a =>
            cases v with
            | agg cs =>
              simp only [Reads, Value.pointer.injEq, Option.some.injEq, ha, hs, reduceCtorEq, false_and, false_or, exists_and_left, true_and, exists_eq_left', Value.agg.injEq]
              constructor
              · intro h; exact ⟨cs.toList, h, by simp⟩
              · rintro ⟨l, h, rfl⟩; simpa using h
            | _ => simp [Reads, ha]
        | _ => simp [Reads]
theorem stabL_iff {G : WP} {w : World} : ∀ {ls : List (Bool × TypeId × Value × Value)}, stabL P ls G w ↔ (∀ l ∈ ls, l.1 = true → Reads P l.2.1 l.2.2.1 w l.2.2.2) ∧ G w
  | [] => by simp [stabL]
  | (on, t, x, v) :: r => by
    simp only [stabL, ck]
    cases on with
    | false => simp [stabL_iff (ls := r)]
    | true => simp [rdK_iff, stabL_iff (ls := r), and_assoc]
theorem worlds_mem {L : List Nat} {j : Nat} {w : World} : ∀ {h : Hist}, w ∈ worlds L j h ↔ ∃ i, (i, HE.eff w) ∈ h ∧ ordd L i j = false
  | [] => by simp [worlds]
  | (i, .eff w') :: h => by
    simp only [worlds]
    cases hd : ordd L i j with
    | true =>
      simp only [cond_true, worlds_mem (h := h), List.mem_cons, Prod.mk.injEq, HE.eff.injEq]
      constructor
      · rintro ⟨k, hk, hk2⟩; exact ⟨k, .inr hk, hk2⟩
      · rintro ⟨k, hk | hk, hk2⟩
        · rw [hk.1, hd] at hk2; cases hk2
        · exact ⟨k, hk, hk2⟩
    | false =>
      simp only [cond_false, List.mem_cons, worlds_mem (h := h), Prod.mk.injEq, HE.eff.injEq]
      constructor
      · rintro (rfl | ⟨k, hk, hk2⟩)
        · exact ⟨i, .inl ⟨rfl, rfl⟩, hd⟩
        · exact ⟨k, .inr hk, hk2⟩
      · rintro ⟨k, hk | hk, hk2⟩
        · exact .inl hk.2
        · exact .inr ⟨k, hk, hk2⟩
  | (i, .ld on t x v) :: h => by
    simp only [worlds, worlds_mem (h := h), List.mem_cons, Prod.mk.injEq, reduceCtorEq, and_false, false_or]
theorem loads_mem {L : List Nat} {j : Nat} {l : Bool × TypeId × Value × Value} : ∀ {h : Hist}, l ∈ loadsH L j h ↔ ∃ i, (i, HE.ld l.1 l.2.1 l.2.2.1 l.2.2.2) ∈ h ∧ ordd L i j = false
  | [] => by simp [loadsH]
  | (i, .eff w') :: h => by
    simp only [loadsH, loads_mem (h := h), List.mem_cons, Prod.mk.injEq, reduceCtorEq, and_false, false_or]
  | (i, .ld on t x v) :: h => by
    obtain ⟨on', t', x', v'⟩ := l
    simp only [loadsH]
    cases hd : ordd L i j with
    | true =>
      simp only [cond_true, loads_mem (h := h), List.mem_cons, Prod.mk.injEq, HE.ld.injEq]
      constructor
      · rintro ⟨k, hk, hk2⟩; exact ⟨k, .inr hk, hk2⟩
      · rintro ⟨k, hk | hk, hk2⟩
        · rw [hk.1, hd] at hk2; cases hk2
        · exact ⟨k, hk, hk2⟩
    | false =>
      simp only [cond_false, List.mem_cons, loads_mem (h := h), Prod.mk.injEq, HE.ld.injEq]
      constructor
      · rintro (⟨rfl, rfl, rfl, rfl⟩ | ⟨k, hk, hk2⟩)
        · exact ⟨i, .inl ⟨rfl, rfl, rfl, rfl, rfl⟩, hd⟩
        · exact ⟨k, .inr hk, hk2⟩
      · rintro ⟨k, hk | hk, hk2⟩
        · exact .inl hk.2
        · exact .inr ⟨k, hk, hk2⟩
end
end Go.Proofs.Ytmmbepdghpjgeaa.Den
end

section
set_option linter.unusedVariables false
set_option linter.unusedSimpArgs false
namespace Go.Proofs.Ytmmbepdghpjgeaa.Den
open Go
section
variable {P : Program} {R : ER} {ops : Array Oper} {L : List Nat}

theorem pureFn_congr {op : Op} {f : Env → Option Value} {e e' : Env} (hf : pureFn P op = some f) (h : ∀ x ∈ op.operands, ev e x = ev e' x) : f e = f e' := by
  have pairs : ∀ t (l : List (Nat × Operand)) r, placesO P t l = some r → (∀ p ∈ l, ev e p.2 = ev e' p.2) → evParts e r = evParts e' r := by
    intro t l
    induction l with
    | nil => intro r hr _; simp only [placesO] at hr; injection hr with hr; subst hr; rfl
    | cons p l ih =>
      intro r hr hp
      obtain ⟨i, x⟩ := p
      simp only [placesO] at hr
      split at hr
      · split at hr
        · rename_i l' hl'; injection hr with hr; subst hr
          simp only [evParts]
          rw [hp (i, x) (List.mem_cons_self ..), ih l' hl' (fun q hq => hp q (List.mem_cons_of_mem _ hq))]
        · cases hr
      · cases hr
  unfold pureFn at hf
  split at hf <;> simp only [Op.operands, Call.operands] at h
  case h_5 =>
    split at hf
    · split at hf
      · split at hf
        · injection hf with hf; subst hf; simp_all
        · cases hf
      · cases hf
    · cases hf
  case h_6 =>
    split at hf
    · split at hf
      · injection hf with hf; subst hf; simp_all
      · cases hf
    · split at hf
      · injection hf with hf; subst hf; simp_all
      · cases hf
    · cases hf
  case h_7 =>
    split at hf
    · injection hf with hf; subst hf; simp_all
    · split at hf
      · injection hf with hf; subst hf; simp_all
      · injection hf with hf; subst hf; simp_all
      · cases hf
    · cases hf
  case h_8 =>
    split at hf
    · split at hf
      · split at hf
        · injection hf with hf; subst hf; simp_all
        · injection hf with hf; subst hf; simp_all
        · cases hf
      · cases hf
    · cases hf
  case h_9 =>
    unfold binFn at hf
    split at hf
    · injection hf with hf; subst hf; simp_all
    · injection hf with hf; subst hf; simp_all
    · injection hf with hf; subst hf; simp_all
    · split at hf
      · injection hf with hf; subst hf; simp_all
      · injection hf with hf; subst hf; simp_all
      · cases hf
    · split at hf
      · injection hf with hf; subst hf; simp_all
      · injection hf with hf; subst hf; simp_all
      · cases hf
    · split at hf
      · split at hf
        · injection hf with hf; subst hf; simp_all
        · injection hf with hf; subst hf; simp_all
        · cases hf
      · cases hf
    · cases hf
  case h_11 =>
    split at hf
    · injection hf with hf; subst hf; simp_all
    · cases hf
  case h_12 =>
    split at hf
    · cases hf
    · injection hf with hf; subst hf; simp_all
    · cases hf
  case h_13 fn first captured =>
    injection hf with hf; subst hf
    have e1 : first.map (ev e) = first.map (ev e') := Array.map_congr_left fun x hx => h x (by simp [hx])
    have e2 : captured.map (ev e) = captured.map (ev e') := Array.map_congr_left fun x hx => h x (by simp [hx])
    simp only [amap_eq, e1, e2]
  case h_15 t parts =>
    split at hf
    · rename_i z l hz hl hs; injection hf with hf; subst hf
      simp only [pairs t parts.toList l hl (fun p hp => h p.2 (by simp; exact ⟨p.1, by simpa using hp⟩))]
    · cases hf
  case h_16 t x lo hi =>
    split at hf
    · split at hf
      · injection hf with hf; subst hf; cases lo <;> cases hi <;> simp_all
      · cases hf
    · split at hf
      · injection hf with hf; subst hf; cases lo <;> cases hi <;> simp_all
      · cases hf
    · injection hf with hf; subst hf; cases lo <;> cases hi <;> simp_all
    · cases hf
  case h_17 =>
    split at hf
    · injection hf with hf; subst hf; simp_all
    · injection hf with hf; subst hf; simp_all
    · injection hf with hf; subst hf; rfl
    · cases hf
  case h_18 =>
    split at hf
    · injection hf with hf; subst hf; simp_all
    · cases hf
  case h_19 =>
    split at hf
    · injection hf with hf; subst hf; simp_all
    · cases hf
  case h_20 =>
    split at hf
    · injection hf with hf; subst hf; simp_all
    · cases hf
  case h_21 => cases hf
  all_goals (injection hf with hf; subst hf; simp_all)
theorem effK_congr {o : Oper} {e e' : Env} {K : VK} (hs : ∀ cs b, o.op ≠ .select cs b) (h : ∀ x ∈ o.op.operands, ev e x = ev e' x) : effK P R o e K = effK P R o e' K := by
  have hx := execOp_congr o hs h
  obtain ⟨dst, op, type, pos, after, guard⟩ := o
  have pairs : ∀ ps : Array (Nat × Operand), (∀ x ∈ ps.map (·.2), ev e x = ev e' x) →
      (ps.map fun (i, x) => (i, ev e x)) = (ps.map fun (i, x) => (i, ev e' x)) := fun ps hp =>
    Array.map_congr_left fun p hm => by
      obtain ⟨i, x⟩ := p
      simp only [hp x (Array.mem_map.2 ⟨(i, x), hm, rfl⟩)]
  cases op <;> simp only [Op.operands, Call.operands] at h <;> simp only [effK, amap_eq]
  case build t ps => rw [pairs ps fun x hx => h x (by simpa using hx)]
  case buildSlice t n ps => rw [pairs ps fun x hx => h x (by simpa using hx)]
  case makeMap t r => cases r <;> simp_all
  case slice t x lo hi mx => cases lo <;> cases hi <;> cases mx <;> simp_all
  case call c =>
    have hargs : c.args.map (ev e) = c.args.map (ev e') := Array.map_congr_left fun x hx => h x (by simp [hx])
    cases hc : c.callee with
    | value f =>
      have hf : ev e f = ev e' f := h f (by simp [hc])
      cases f with
      | func g => simp only [hx, hargs]
      | _ => simp only [hf, hargs]
    | invoke r m => have hr : ev e r = ev e' r := h r (by simp [hc]); simp only [hr, hargs]
    | builtin b => simp only [hargs]
  all_goals (first | rfl | (simp_all; done))
theorem beq_ne {t d : Nat} (h : t ≠ d) : Nat.beq t d = false := by
  cases hb : Nat.beq t d with
  | false => rfl
  | true => exact absurd (Nat.eq_of_beq_eq_true hb) h
theorem ev_updO {e : Env} {dst : Option Nat} {v : Value} {x : Operand} (h : ∀ d, dst = some d → x ≠ .tmp d) : ev (updO e dst v) x = ev e x := by
  cases dst with
  | none => rfl
  | some d =>
    cases x with
    | tmp t =>
      have hne : t ≠ d := fun q => h d rfl (q ▸ rfl)
      simp only [updO, upd, ev]
      rw [beq_ne hne]; rfl
    | _ => rfl
theorem updO_comm (e : Env) {x y : Option Nat} (v u : Value) (h : ∀ d, x = some d → y ≠ some d) : updO (updO e x v) y u = updO (updO e y u) x v := by
  cases x with
  | none => rfl
  | some d =>
    cases y with
    | none => rfl
    | some d' =>
      have hne : d ≠ d' := fun he => h d rfl (he ▸ rfl)
      funext t
      simp only [updO, upd]
      cases h1 : Nat.beq t d <;> cases h2 : Nat.beq t d' <;> first | rfl | (exact absurd ((Nat.eq_of_beq_eq_true h1).symm.trans (Nat.eq_of_beq_eq_true h2)) hne)
theorem ev_looks {o : Oper} {e : Env} {dst : Option Nat} {v : Value} (h : ∀ d, dst = some d → d ∉ o.looksAt ops) : ∀ x ∈ o.op.operands, ev (updO e dst v) x = ev e x :=
  fun x hx => ev_updO fun d hd hxd => h d hd (by
    subst hxd
    exact List.mem_append_left _ (List.mem_filterMap.2 ⟨.tmp d, by simpa using hx, rfl⟩))
theorem want_upd {o : Oper} {e : Env} {dst : Option Nat} {v : Value} (h : ∀ d, dst = some d → d ∉ o.looksAt ops) : want ops o (updO e dst v) = want ops o e := by
  unfold want
  cases hg : o.guard with
  | none => rfl
  | some jb =>
    obtain ⟨j, b⟩ := jb
    simp only
    cases ht : guardTmp ops j with
    | none => rfl
    | some t =>
      cases dst with
      | none => rfl
      | some d =>
        have hne : t ≠ d := fun q => h d rfl (by subst q; simp only [Oper.looksAt, hg]; simp only [guardTmp] at ht; simp [ht])
        have : updO e (some d) v t = e t := by
          simp only [updO, upd]
          rw [beq_ne hne]; rfl
        simp only [this]
/-! ### the three kinds -/
theorem dOp_pure {i : Nat} {o : Oper} {f : Env → Option Value} (hf : pureFn P o.op = some f) {K : Hist → Env → WP} {h : Hist} {e : Env} {w : World} :
    dOp P R ops L i o K h e w ↔ ∃ v, (if want ops o e then f e else some undef) = some v ∧ K h (updO e o.dst v) w := by
  unfold dOp
  simp only [hf]
  rw [gOp_eq]
  cases hw : want ops o e with
  | false => simp
  | true =>
    simp only [if_true, opK, hf, pv]
    cases hv : f e with
    | none => simp
    | some v => simp
theorem dOp_load {i : Nat} {o : Oper} {t : Nat} {a : Operand} (hf : pureFn P o.op = none) (ho : o.op = .load t a) {K : Hist → Env → WP} {h : Hist} {e : Env} {w : World} :
    dOp P R ops L i o K h e w ↔ ∃ v, (if want ops o e then Reads P t (ev e a) w v ∧ ∀ w' ∈ worlds L i h, Reads P t (ev e a) w' v else v = undef) ∧ K ((i, .ld (want ops o e) t (ev e a) v) :: h) (updO e o.dst v) w := by
  have e1 : dOp P R ops L i o K h e w = gOp P R ops (worlds L i h) o e (fun v => K ((i, .ld (want ops o e) t (ev e a) v) :: h) (updO e o.dst v)) w := by
    unfold dOp; rw [hf]; simp only [ho]
  rw [e1, gOp_eq]
  cases hw : want ops o e with
  | false => simp
  | true =>
    simp only [if_true]
    have e2 : ∀ K' : VK, opK P R (worlds L i h) o e K' w = ldK P (worlds L i h) t (ev e a) K' w := by
      intro K'; unfold opK; rw [hf]; simp only [ho]
    rw [e2]
    simp only [ldK_iff, and_assoc]
theorem dOp_eff {i : Nat} {o : Oper} (hf : pureFn P o.op = none) (ho : isLoad o = false) {K : Hist → Env → WP} {h : Hist} {e : Env} {w : World} :
    dOp P R ops L i o K h e w ↔ (if want ops o e then effK P R o e (fun v => stabL P (loadsH L i h) (K ((i, .eff w) :: h) (updO e o.dst v))) w else stabL P (loadsH L i h) (K ((i, .eff w) :: h) (updO e o.dst undef)) w) := by
  have e1 : dOp P R ops L i o K h e w = gOp P R ops [] o e (fun v => stabL P (loadsH L i h) (K ((i, .eff w) :: h) (updO e o.dst v))) w := by
    unfold dOp
    simp only [hf]
    unfold isLoad at ho
    generalize o.op = op at ho
    cases op <;> first | rfl | cases ho
  rw [e1, gOp_eq]
  have e2 : ∀ K' : VK, opK P R [] o e K' = effK P R o e K' := by
    intro K'
    unfold opK
    simp only [hf]
    unfold isLoad at ho
    generalize hop : o.op = op at ho
    cases op <;> first | rfl | cases ho
  rw [e2]
theorem isLoad_spec {o : Oper} (h : isLoad o = true) : ∃ t a, o.op = .load t a := by
  unfold isLoad at h; generalize o.op = op at h ⊢; cases op <;> first | exact ⟨_, _, rfl⟩ | cases h
/-- Another history that holds the same. -/
theorem dOp_hist {i : Nat} {o : Oper} {K K' : Hist → Env → WP} {h h' : Hist} (hh : ∀ x, x ∈ h' ↔ x ∈ h) (hK : ∀ x e w, K (x :: h) e w → K' (x :: h') e w) (hK0 : ∀ e w, K h e w → K' h' e w) {e : Env} {w : World}
    (q : dOp P R ops L i o K h e w) : dOp P R ops L i o K' h' e w := by
  have ew : ∀ w', w' ∈ worlds L i h' → w' ∈ worlds L i h := fun w' hw => by
    obtain ⟨k, hk, hk2⟩ := worlds_mem.1 hw; exact worlds_mem.2 ⟨k, (hh _).1 hk, hk2⟩
  have el : ∀ l, l ∈ loadsH L i h' → l ∈ loadsH L i h := fun w' hw => by
    obtain ⟨k, hk, hk2⟩ := loads_mem.1 hw; exact loads_mem.2 ⟨k, (hh _).1 hk, hk2⟩
  have es : ∀ G G' : WP, (∀ w, G w → G' w) → ∀ w, stabL P (loadsH L i h) G w → stabL P (loadsH L i h') G' w := fun G G' hG w q => by
    obtain ⟨q1, q2⟩ := stabL_iff.1 q
    exact stabL_iff.2 ⟨fun l hl => q1 l (el l hl), hG _ q2⟩
  cases hf : pureFn P o.op with
  | some f => rw [dOp_pure hf] at *; obtain ⟨v, h1, h2⟩ := q; exact ⟨v, h1, hK0 _ _ h2⟩
  | none =>
    cases hl : isLoad o with
    | true =>
      obtain ⟨t, a, ho⟩ := isLoad_spec hl
      rw [dOp_load hf ho] at *; obtain ⟨v, h1, h2⟩ := q
      refine ⟨v, ?_, hK _ _ _ h2⟩
      split
      · rename_i hw; simp only [hw, if_true] at h1; exact ⟨h1.1, fun w' hw' => h1.2 w' (ew w' hw')⟩
      · rename_i hw; simp only [hw] at h1; exact h1
    | false =>
      rw [dOp_eff hf hl] at *
      split
      · rename_i hw; simp only [hw, if_true] at q; exact effK_mono (fun v w' q => es _ _ (fun w q => hK _ _ _ q) _ q) q
      · rename_i hw; simp only [hw] at q; exact es _ _ (fun w q => hK _ _ _ q) _ q
theorem dOp_mono {i : Nat} {o : Oper} {K K' : Hist → Env → WP} (hK : ∀ h e w, K h e w → K' h e w) {h : Hist} {e : Env} {w : World}
    (hh : dOp P R ops L i o K h e w) : dOp P R ops L i o K' h e w := dOp_hist (fun _ => Iff.rfl) (fun _ _ _ q => hK _ _ _ q) (fun _ _ q => hK _ _ _ q) hh
theorem stCells_false {a : Addr} : ∀ (l : List Value) (i : Nat) (w : World), stCells a l i (fun _ => False) w → False
  | [], _, w, hh => hh
  | _ :: l, i, w, ⟨_, _, _, h4⟩ => stCells_false l (i + 1) _ h4
theorem calls_false {f : FuncId} {args : Array Value} {w : World} (h : Calls P f args w (retK noR fun _ _ => False)) : False := by
  obtain ⟨e, w', fr, hR, _⟩ := h []
  cases e <;> exact hR
theorem semV_false {s : Sem Next} {w : World} (h : semV P noR s (fun _ _ => False) w) : False := by
  unfold semV at h
  generalize s.run P w = r at h
  cases r with
  | ok n w =>
    cases n <;> simp only [stepK] at h
    case enter f args => exact calls_false h
    case row r args => obtain ⟨_, _, q, _⟩ := h default []; exact q
    case round l f tmps a b =>
      obtain ⟨e, w', hR, _⟩ := h.2 default [] (room_wide _)
      cases e <;> exact hR
  | halt x w => cases x <;> simp only [stepK] at h; exact h
theorem valV_false {s : Sem Value} {w : World} (h : valV P noR s (fun _ _ => False) w) : False := by
  unfold valV at h; split at h <;> exact h
theorem unitV_false {s : Sem Unit} {w : World} (h : unitV P noR s (fun _ _ => False) w) : False := by
  unfold unitV at h; split at h <;> exact h
theorem effK_false {o : Oper} {e : Env} {w : World} (h : effK P noR o e (fun _ _ => False) w) : False := by
  obtain ⟨dst, op, type, pos, after, guard⟩ := o
  cases op <;> simp only [effK, amap_eq] at h <;> first
    | exact valV_false h
    | exact unitV_false h
    | exact h
    | skip
  case store t a x =>
    unfold stK at h
    cases ha : isAggO P t with
    | none => simp only [ha] at h
    | some b =>
      cases b <;> simp only [ha] at h
      · cases hs : szO P t with
        | none => simp only [hs] at h
        | some n =>
          rcases n with _ | _ | n <;> simp only [hs] at h
          simp only [st1] at h
          split at h
          · exact h.2.2.2
          · exact h
      · cases hs : szO P t with
        | none => simp only [hs] at h
        | some n =>
          simp only [hs, stN] at h
          split at h
          · exact stCells_false _ _ _ h.2
          · exact h
  case alloc t =>
    unfold al at h
    split at h <;> exact h
  case call c =>
    cases hc : c.callee with
    | value f =>
      simp only [hc] at h
      have key : ∀ v, calD P noR v (c.args.map (ev e)) (fun _ _ => False) w → False := by
        intro v hv
        unfold calD at hv
        cases v with
        | func fn first captured =>
          cases fn with
          | func g =>
            dsimp only at hv
            cases hb : enterOk P g with
            | false => rw [hb] at hv; exact semV_false hv
            | true => rw [hb] at hv; exact calls_false hv
          | _ => exact semV_false hv
        | _ => exact semV_false hv
      cases f with
      | func g =>
        dsimp only at h
        cases hb : enterOk P g with
        | false => rw [hb] at h; exact semV_false h
        | true => rw [hb] at h; exact calls_false h
      | _ => exact key _ h
    | invoke r n => simp only [hc] at h; exact semV_false h
    | builtin b => simp only [hc] at h; exact semV_false h
theorem dOp_false {i : Nat} {o : Oper} {h : Hist} {e : Env} {w : World} (hh : dOp P noR ops L i o (fun _ _ _ => False) h e w) : False := by
  cases hf : pureFn P o.op with
  | some f => rw [dOp_pure hf] at hh; exact hh.choose_spec.2
  | none =>
    cases hl : isLoad o with
    | true =>
      obtain ⟨t, a, ho⟩ : ∃ t a, o.op = .load t a := by
        unfold isLoad at hl; generalize o.op = op at hl ⊢; cases op <;> first | exact ⟨_, _, rfl⟩ | cases hl
      rw [dOp_load hf ho] at hh; exact hh.choose_spec.2
    | false =>
      rw [dOp_eff hf hl] at hh
      split at hh
      · exact effK_false (effK_mono (fun v w' q => (stabL_iff.1 q).2) hh)
      · exact (stabL_iff.1 hh).2
theorem Reads_one {t : Nat} {x : Value} {w : World} {u v : Value} (h1 : Reads P t x w u) (h2 : Reads P t x w v) : u = v := by
  obtain ⟨a, rfl, h1⟩ := h1
  obtain ⟨b, hb, h2⟩ := h2
  injection hb with hb; injection hb with hb; subst hb
  rcases h1 with ⟨_, h1⟩ | ⟨n, cs, p1, p2, p3, rfl⟩ <;> rcases h2 with ⟨_, h2⟩ | ⟨m, ds, q1, q2, q3, rfl⟩
  · rw [h1] at h2; injection h2
  · simp_all
  · simp_all
  · rw [p2] at q2; injection q2 with q2; subst q2; rw [p3] at q3; injection q3 with q3; subst q3; rfl
/-- i ahead of j becomes j ahead of i. -/
theorem dOp_swap {i j : Nat} {oi oj : Oper} (hap : oi.apart ops oj = true) (hsi : ∀ cs b, oi.op ≠ .select cs b) (hsj : ∀ cs b, oj.op ≠ .select cs b)
    (hdep : ordd L i j = false) (hdep' : ordd L j i = false) (hk : isPure P oi = true ∨ isPure P oj = true ∨ isLoad oi = true ∨ isLoad oj = true) {K : Hist → Env → WP} (hK : ∀ x y h e w, K (x :: y :: h) e w → K (y :: x :: h) e w) {h : Hist} {e : Env} {w : World}
    (hh : dOp P noR ops L i oi (fun h1 e1 => dOp P noR ops L j oj K h1 e1) h e w) : dOp P noR ops L j oj (fun h2 e2 => dOp P noR ops L i oi K h2 e2) h e w := by
  obtain ⟨a1, a2, a3⟩ := Oper.apart_spec hap
  have wj : ∀ v, want ops oj (updO e oi.dst v) = want ops oj e := fun v => want_upd a1
  have wi : ∀ v, want ops oi (updO e oj.dst v) = want ops oi e := fun v => want_upd a3
  have evj : ∀ v, ∀ x ∈ oj.op.operands, ev (updO e oi.dst v) x = ev e x := fun v => ev_looks a1
  have evi : ∀ v, ∀ x ∈ oi.op.operands, ev (updO e oj.dst v) x = ev e x := fun v => ev_looks a3
  cases hfi : pureFn P oi.op with
  | some fi =>
    rw [dOp_pure hfi] at hh
    obtain ⟨v, h1, h2⟩ := hh
    have pi : ∀ u, (if want ops oi (updO e oj.dst u) then fi (updO e oj.dst u) else some undef) = some v := by
      intro u; rw [wi, pureFn_congr hfi (evi u)]; exact h1
    cases hfj : pureFn P oj.op with
    | some fj =>
      rw [dOp_pure hfj] at h2 ⊢
      obtain ⟨u, h3, h4⟩ := h2
      rw [wj, pureFn_congr hfj (evj v)] at h3
      exact ⟨u, h3, (dOp_pure hfi).2 ⟨v, pi u, by rw [← updO_comm e v u a2]; exact h4⟩⟩
    | none =>
      cases hlj : isLoad oj with
      | true =>
        obtain ⟨t, a, hoj⟩ := isLoad_spec hlj
        rw [dOp_load hfj hoj] at h2 ⊢
        obtain ⟨u, h3, h4⟩ := h2
        have ea : ev (updO e oi.dst v) a = ev e a := evj v a (by rw [hoj]; simp [Op.operands])
        rw [wj, ea] at h3 h4
        exact ⟨u, h3, (dOp_pure hfi).2 ⟨v, pi u, by rw [← updO_comm e v u a2]; exact h4⟩⟩
      | false =>
        rw [dOp_eff hfj hlj] at h2 ⊢
        rw [wj] at h2
        have fin : ∀ u w', stabL P (loadsH L j h) (K ((j, .eff w) :: h) (updO (updO e oi.dst v) oj.dst u)) w' → stabL P (loadsH L j h) (dOp P noR ops L i oi K ((j, .eff w) :: h) (updO e oj.dst u)) w' := by
          intro u w' q
          obtain ⟨q1, q2⟩ := stabL_iff.1 q
          exact stabL_iff.2 ⟨q1, (dOp_pure hfi).2 ⟨v, pi u, by rw [← updO_comm e v u a2]; exact q2⟩⟩
        split
        · rename_i hw
          simp only [hw, if_true] at h2
          rw [effK_congr hsj (evj v)] at h2
          exact effK_mono (fun u w' q => fin u w' q) h2
        · rename_i hw
          simp only [hw] at h2
          exact fin _ _ h2
  | none =>
    have hpi : isPure P oi = false := by simp [isPure, hfi]
    cases hli : isLoad oi with
    | true =>
      obtain ⟨ti, ai, hoi⟩ := isLoad_spec hli
      rw [dOp_load hfi hoi] at hh
      obtain ⟨v, h1, h2⟩ := hh
      have ea : ∀ u, ev (updO e oj.dst u) ai = ev e ai := fun u => evi u ai (by rw [hoi]; simp [Op.operands])
      have pi : ∀ u, (if want ops oi (updO e oj.dst u) then Reads P ti (ev (updO e oj.dst u) ai) w v ∧ ∀ w' ∈ worlds L i h, Reads P ti (ev (updO e oj.dst u) ai) w' v else v = undef) := by
        intro u; rw [wi, ea]; exact h1
      cases hfj : pureFn P oj.op with
      | some fj =>
        rw [dOp_pure hfj] at h2 ⊢
        obtain ⟨u, h3, h4⟩ := h2
        rw [wj, pureFn_congr hfj (evj v)] at h3
        exact ⟨u, h3, (dOp_load hfi hoi).2 ⟨v, pi u, by rw [wi, ea, ← updO_comm e v u a2]; exact h4⟩⟩
      | none =>
        cases hlj : isLoad oj with
        | true =>
          obtain ⟨t, a, hoj⟩ := isLoad_spec hlj
          rw [dOp_load hfj hoj] at h2 ⊢
          obtain ⟨u, h3, h4⟩ := h2
          have ea' : ev (updO e oi.dst v) a = ev e a := evj v a (by rw [hoj]; simp [Op.operands])
          rw [wj, ea'] at h3 h4
          have e1 : worlds L j ((i, HE.ld (want ops oi e) ti (ev e ai) v) :: h) = worlds L j h := rfl
          rw [e1] at h3
          refine ⟨u, h3, (dOp_load hfi hoi).2 ⟨v, ?_, ?_⟩⟩
          · exact pi u
          · rw [wi, ea, ← updO_comm e v u a2]; exact hK _ _ _ _ _ h4
        | false =>
          rw [dOp_eff hfj hlj] at h2 ⊢
          rw [wj] at h2
          have e1 : loadsH L j ((i, HE.ld (want ops oi e) ti (ev e ai) v) :: h) = (want ops oi e, ti, ev e ai, v) :: loadsH L j h := by simp only [loadsH, hdep]; rfl
          have e2 : worlds L i ((j, HE.eff w) :: h) = w :: worlds L i h := by simp only [worlds, hdep']; rfl
          rw [e1] at h2
          have fin : ∀ u w', stabL P ((want ops oi e, ti, ev e ai, v) :: loadsH L j h) (K ((j, .eff w) :: (i, HE.ld (want ops oi e) ti (ev e ai) v) :: h) (updO (updO e oi.dst v) oj.dst u)) w' →
              stabL P (loadsH L j h) (dOp P noR ops L i oi K ((j, .eff w) :: h) (updO e oj.dst u)) w' := by
            intro u w' q
            obtain ⟨q1, q2⟩ := stabL_iff.1 q
            refine stabL_iff.2 ⟨fun l hl => q1 l (List.mem_cons_of_mem _ hl), (dOp_load hfi hoi).2 ⟨v, ?_, ?_⟩⟩
            · rw [wi, ea, e2]
              split
              · rename_i hw
                simp only [hw, if_true] at h1
                refine ⟨q1 _ (List.mem_cons_self ..) hw, fun w'' hw'' => ?_⟩
                rcases List.mem_cons.1 hw'' with rfl | hw''
                · exact h1.1
                · exact h1.2 _ hw''
              · rename_i hw; simp only [hw] at h1; exact h1
            · rw [wi, ea, ← updO_comm e v u a2]; exact hK _ _ _ _ _ q2
          split
          · rename_i hw
            simp only [hw, if_true] at h2
            rw [effK_congr hsj (evj v)] at h2
            exact effK_mono (fun u w' q => fin u w' q) h2
          · rename_i hw
            simp only [hw] at h2
            exact fin _ _ h2
    | false =>
      rw [dOp_eff hfi hli] at hh
      cases hfj : pureFn P oj.op with
      | some fj =>
        have step : ∀ v w', stabL P (loadsH L i h) (dOp P noR ops L j oj K ((i, .eff w) :: h) (updO e oi.dst v)) w' →
            ∃ u, (if want ops oj e then fj e else some undef) = some u ∧ stabL P (loadsH L i h) (K ((i, .eff w) :: h) (updO (updO e oj.dst u) oi.dst v)) w' := by
          intro v w' q0
          obtain ⟨q1, q⟩ := stabL_iff.1 q0
          rw [dOp_pure hfj] at q
          obtain ⟨u, h3, h4⟩ := q
          rw [wj, pureFn_congr hfj (evj v)] at h3
          exact ⟨u, h3, stabL_iff.2 ⟨q1, by rw [← updO_comm e v u a2]; exact h4⟩⟩
        rw [dOp_pure hfj]
        -- the pure value is known ahead of the effect
        have hsome : ∃ u, (if want ops oj e then fj e else some undef) = some u := by
          by_cases hex : ∃ u, (if want ops oj e then fj e else some undef) = some u
          · exact hex
          · exfalso
            have hno : ∀ v w', stabL P (loadsH L i h) (dOp P noR ops L j oj K ((i, .eff w) :: h) (updO e oi.dst v)) w' → False := fun v w' q => hex ⟨_, (step v w' q).choose_spec.1⟩
            split at hh
            · exact effK_false (effK_mono (K' := fun _ _ => False) (fun v w' q => hno v w' q) hh)
            · exact hno _ _ hh
        obtain ⟨u, hu⟩ := hsome
        refine ⟨u, hu, ?_⟩
        have step' : ∀ v w', stabL P (loadsH L i h) (dOp P noR ops L j oj K ((i, .eff w) :: h) (updO e oi.dst v)) w' → stabL P (loadsH L i h) (K ((i, .eff w) :: h) (updO (updO e oj.dst u) oi.dst v)) w' := by
          intro v w' q
          obtain ⟨u', h3, h4⟩ := step v w' q
          rw [hu] at h3; injection h3 with h3; subst h3; exact h4
        rw [dOp_eff hfi hli, wi]
        split
        · rename_i hw
          simp only [hw, if_true] at hh
          rw [effK_congr hsi (evi u)]
          exact effK_mono (fun v w' q => step' v w' q) hh
        · rename_i hw
          simp only [hw] at hh
          exact step' _ _ hh
      | none =>
        have hpj : isPure P oj = false := by simp [isPure, hfj]
        have hlj : isLoad oj = true := by rcases hk with q | q | q | q
                                          · rw [hpi] at q; cases q
                                          · rw [hpj] at q; cases q
                                          · rw [hli] at q; cases q
                                          · exact q
        obtain ⟨t, a, hoj⟩ := isLoad_spec hlj
        have hws : worlds L j ((i, HE.eff w) :: h) = w :: worlds L j h := by simp only [worlds, hdep]; rfl
        have ea : ∀ v, ev (updO e oi.dst v) a = ev e a := fun v => evj v a (by rw [hoj]; simp [Op.operands])
        have step : ∀ v w', stabL P (loadsH L i h) (dOp P noR ops L j oj K ((i, .eff w) :: h) (updO e oi.dst v)) w' →
            ∃ u, (if want ops oj e then Reads P t (ev e a) w u ∧ ∀ w' ∈ worlds L j h, Reads P t (ev e a) w' u else u = undef) ∧
              stabL P (loadsH L i ((j, HE.ld (want ops oj e) t (ev e a) u) :: h)) (K ((i, .eff w) :: (j, HE.ld (want ops oj e) t (ev e a) u) :: h) (updO (updO e oj.dst u) oi.dst v)) w' := by
          intro v w' q0
          obtain ⟨q1, q⟩ := stabL_iff.1 q0
          rw [dOp_load hfj hoj] at q
          obtain ⟨u, h3, h4⟩ := q
          rw [wj, hws, ea] at h3
          rw [wj, ea] at h4
          refine ⟨u, ?_, stabL_iff.2 ⟨?_, by rw [← updO_comm e v u a2]; exact hK _ _ _ _ _ h4⟩⟩
          · split
            · rename_i hw; simp only [hw, if_true] at h3
              exact ⟨h3.2 w (List.mem_cons_self ..), fun w'' hw'' => h3.2 w'' (List.mem_cons_of_mem _ hw'')⟩
            · rename_i hw; simp only [hw] at h3; exact h3
          · have e1 : loadsH L i ((j, HE.ld (want ops oj e) t (ev e a) u) :: h) = (want ops oj e, t, ev e a, u) :: loadsH L i h := by simp only [loadsH, hdep']; rfl
            rw [e1]
            intro l hl hon
            rcases List.mem_cons.1 hl with rfl | hl
            · dsimp only at hon ⊢
              rw [hon] at h3
              exact h3.1
            · exact q1 l hl hon
        rw [dOp_load hfj hoj]
        have hsome : ∃ u, (if want ops oj e then Reads P t (ev e a) w u ∧ ∀ w' ∈ worlds L j h, Reads P t (ev e a) w' u else u = undef) := by
          by_cases hex : ∃ u, (if want ops oj e then Reads P t (ev e a) w u ∧ ∀ w' ∈ worlds L j h, Reads P t (ev e a) w' u else u = undef)
          · exact hex
          · exfalso
            have hno : ∀ v w', stabL P (loadsH L i h) (dOp P noR ops L j oj K ((i, .eff w) :: h) (updO e oi.dst v)) w' → False := fun v w' q => hex ⟨_, (step v w' q).choose_spec.1⟩
            split at hh
            · exact effK_false (effK_mono (K' := fun _ _ => False) (fun v w' q => hno v w' q) hh)
            · exact hno _ _ hh
        obtain ⟨u, hu⟩ := hsome
        refine ⟨u, hu, ?_⟩
        have step' : ∀ v w', stabL P (loadsH L i h) (dOp P noR ops L j oj K ((i, .eff w) :: h) (updO e oi.dst v)) w' →
            stabL P (loadsH L i ((j, HE.ld (want ops oj e) t (ev e a) u) :: h)) (K ((i, .eff w) :: (j, HE.ld (want ops oj e) t (ev e a) u) :: h) (updO (updO e oj.dst u) oi.dst v)) w' := by
          intro v w' q
          obtain ⟨u', h3, h4⟩ := step v w' q
          have : u' = u := by
            split at h3
            · rename_i hw; simp only [hw, if_true] at hu; exact Reads_one h3.1 hu.1
            · rename_i hw; simp only [hw] at hu; rw [h3]; exact hu.symm
          subst this; exact h4
        rw [dOp_eff hfi hli, wi]
        split
        · rename_i hw
          simp only [hw, if_true] at hh
          rw [effK_congr hsi (evi u)]
          exact effK_mono (fun v w' q => step' v w' q) hh
        · rename_i hw
          simp only [hw] at hh
          exact step' _ _ hh
end
end Go.Proofs.Ytmmbepdghpjgeaa.Den
end

section
set_option linter.unusedVariables false
set_option linter.unusedSimpArgs false
namespace Go.Proofs.Ytmmbepdghpjgeaa.Den
open Go
section
variable {P : Program} {R : ER} {ops : Array Oper}

/-! ### what stands ahead -/
theorem befs_app : ∀ (l : List Oper) (acc : List Nat), ∃ t, befs l acc = acc ++ t ∧ t.length = l.length
  | [], acc => ⟨[], by simp [befs]⟩
  | o :: l, acc => by
    obtain ⟨t, h1, h2⟩ := befs_app l (acc ++ [befStep acc o])
    exact ⟨befStep acc o :: t, by simp [befs, h1], by simp [h2]⟩
theorem foldl_bit (acc : List Nat) (i : Nat) : ∀ (es : List Edge) (s : Nat), (es.foldl (fun s e => bif Region.binds .any e then s ||| 2 ^ e.on ||| acc.getD e.on 0 else s) s).testBit i = true →
    s.testBit i = true ∨ ∃ e ∈ es, Region.binds .any e = true ∧ (e.on = i ∨ (acc.getD e.on 0).testBit i = true)
  | [], s, h => .inl h
  | e :: es, s, h => by
    rcases foldl_bit acc i es _ h with h1 | ⟨e', he', hb, h1⟩
    · dsimp only at h1
      cases hb : Region.binds .any e with
      | false => rw [hb] at h1; exact .inl h1
      | true =>
        rw [hb] at h1
        simp only [cond_true, Nat.testBit_or, Bool.or_eq_true] at h1
        rcases h1 with (h1 | h1) | h1
        · exact .inl h1
        · rw [Nat.testBit_two_pow] at h1
          exact .inr ⟨e, List.mem_cons_self .., hb, .inl (by simpa using h1)⟩
        · exact .inr ⟨e, List.mem_cons_self .., hb, .inr h1⟩
    · exact .inr ⟨e', List.mem_cons_of_mem _ he', hb, h1⟩
theorem befs_at : ∀ (l : List Oper) (acc : List Nat) (j : Nat) (o : Oper), l[j]? = some o → ∃ pre t, befs l acc = pre ++ befStep pre o :: t ∧ pre.length = acc.length + j
  | o' :: l, acc, 0, o, h => by
    simp only [List.getElem?_cons_zero, Option.some.injEq] at h; subst h
    obtain ⟨t, h1, _⟩ := befs_app l (acc ++ [befStep acc o'])
    exact ⟨acc, t, by simp [befs, h1], rfl⟩
  | o' :: l, acc, j + 1, o, h => by
    simp only [List.getElem?_cons_succ] at h
    obtain ⟨pre, t, h1, h2⟩ := befs_at l (acc ++ [befStep acc o']) j o h
    exact ⟨pre, t, by simp [befs, h1], by simp at h2; omega⟩
  | [], _, _, _, h => by simp at h
theorem ordd_spec {i j : Nat} {o : Oper} (hj : ops[j]? = some o) (hback : ∀ e ∈ o.after, Region.binds .any e = true → e.on < j)
    (h : ordd (befs ops.toList []) i j = true) : ∃ e ∈ o.after, Region.binds .any e = true ∧ (e.on = i ∨ ordd (befs ops.toList []) i e.on = true) := by
  obtain ⟨pre, t, h1, h2⟩ := befs_at ops.toList [] j o (by simpa using hj)
  simp only [List.length_nil, Nat.zero_add] at h2
  unfold ordd at h
  have hg : (befs ops.toList []).getD j 0 = befStep pre o := by
    rw [h1, List.getD_eq_getElem?_getD, List.getElem?_append_right (by omega)]
    simp [h2]
  rw [hg] at h
  rcases foldl_bit pre i o.after.toList 0 h with h0 | ⟨e, he, hb, h3⟩
  · simp at h0
  · refine ⟨e, by simpa using he, hb, ?_⟩
    rcases h3 with h3 | h3
    · exact .inl h3
    · refine .inr ?_
      unfold ordd
      have hlt := hback e (by simpa using he) hb
      have : (befs ops.toList []).getD e.on 0 = pre.getD e.on 0 := by
        rw [h1, List.getD_eq_getElem?_getD, List.getElem?_append_left (by omega), List.getD_eq_getElem?_getD]
      rw [this]; exact h3
/-- What is listed holds with each operation all that stands ahead of it. -/
def Closed (ops : Array Oper) (listed : Array Bool) : Prop := ∀ (k : Nat) (o : Oper), ops[k]? = some o → listed.getD k false = true → ∀ e ∈ o.after, Region.binds .any e = true → listed.getD e.on false = true
theorem ahead_listed (hback : ∀ (j : Nat) (o : Oper), ops[j]? = some o → ∀ e ∈ o.after, Region.binds .any e = true → e.on < j) {listed : Array Bool} (hc : Closed ops listed) {i : Nat} :
    ∀ (j : Nat) (o : Oper), ops[j]? = some o → (∀ e ∈ o.after, Region.binds .any e = true → listed.getD e.on false = true) → ordd (befs ops.toList []) i j = true → listed.getD i false = true := by
  intro j
  induction j using Nat.strongRecOn with
  | _ j ih =>
    intro o ho hall h
    obtain ⟨e, he, hb, h1⟩ := ordd_spec ho (hback j o ho) h
    rcases h1 with h1 | h1
    · subst h1; exact hall e he hb
    · have hl := hall e he hb
      cases ho' : ops[e.on]? with
      | none =>
        exfalso
        have := hback j o ho e he hb
        have hj := (Array.getElem?_eq_some_iff.1 ho).1
        simp at ho'; omega
      | some o' => exact ih e.on (hback j o ho e he hb) o' ho' (fun e' he' hb' => hc e.on o' ho' hl e' he' hb') h1
/-! ### any order -/
def dAny (P : Program) (R : ER) (ops : Array Oper) (K : Env → WP) : Nat → Array Bool → Hist → Env → WP
  | 0, listed, _, e => fun w => Region.ready .any ops listed = [] ∧ K e w
  | n + 1, listed, h, e => fun w => (Region.ready .any ops listed = [] → K e w) ∧
      ∀ i ∈ Region.ready .any ops listed, ∀ o, ops[i]? = some o → dOp P R ops (befs ops.toList []) i o (fun h' e' => dAny P R ops K n (listed.setIfInBounds i true) h' e') h e w
theorem dAny_hist (K : Env → WP) : ∀ (n : Nat) (listed : Array Bool) (h h' : Hist) (e : Env) (w : World), (∀ x, x ∈ h' ↔ x ∈ h) → dAny P R ops K n listed h e w → dAny P R ops K n listed h' e w
  | 0, _, _, _, _, _, _, q => q
  | n + 1, listed, h, h', e, w, hh, q => ⟨q.1, fun i hi o ho => dOp_hist hh (fun x e w q => dAny_hist K n _ _ _ e w (by intro y; simp only [List.mem_cons, hh]) q) (fun e w q => dAny_hist K n _ _ _ e w hh q) (q.2 i hi o ho)⟩
theorem Closed_set {listed : Array Bool} (hc : Closed ops listed) {j : Nat} {oj : Oper} (hj : ops[j]? = some oj) (hall : ∀ e ∈ oj.after, Region.binds .any e = true → listed.getD e.on false = true) :
    Closed ops (listed.setIfInBounds j true) := by
  intro k o ho hl e he hb
  by_cases hkj : k = j
  · subst hkj; rw [hj] at ho; injection ho with ho; subst ho; exact getD_set_true (hall e he hb)
  · rw [getD_set_ne false (Ne.symm hkj)] at hl; exact getD_set_true (hc k o ho hl e he hb)
theorem not_ahead (hback : ∀ (j : Nat) (o : Oper), ops[j]? = some o → ∀ e ∈ o.after, Region.binds .any e = true → e.on < j) {listed : Array Bool} (hcl : Closed ops listed) {i j : Nat} (hj : j ∈ Region.ready .any ops listed) (hun : listed.getD i true = false) :
    ordd (befs ops.toList []) i j = false := by
  cases hdd : ordd (befs ops.toList []) i j with
  | false => rfl
  | true =>
    exfalso
    obtain ⟨_, oj, hoj, hall⟩ := mem_ready.1 hj
    have h1 := ahead_listed hback hcl j oj hoj hall hdd
    rcases Nat.lt_or_ge i listed.size with h' | h'
    · simp [h'] at hun h1; rw [hun] at h1; cases h1
    · simp [Array.getElem?_eq_none h'] at h1
theorem dAny_first (hns : Region.noSelect ops = true) (hback : ∀ (j : Nat) (o : Oper), ops[j]? = some o → ∀ e ∈ o.after, Region.binds .any e = true → e.on < j) {K : Env → WP} {i : Nat} {oi : Oper} (hi : ops[i]? = some oi) : ∀ (fuel : Nat) (listed : Array Bool) (h : Hist) (e : Env) (w : World),
    (∀ j, j ≠ i → listed.getD j true = false → j < ops.size → pairOk P ops (befs ops.toList []) i j = true) →
    Closed ops listed → i ∈ Region.ready .any ops listed →
    dOp P noR ops (befs ops.toList []) i oi (fun h' e' => dAny P noR ops K fuel (listed.setIfInBounds i true) h' e') h e w → dAny P noR ops K (fuel + 1) listed h e w := by
  intro fuel
  induction fuel with
  | zero =>
    intro listed h e w _ hcl hr H
    refine ⟨fun q => (by rw [q] at hr; cases hr), fun j hj oj hoj => ?_⟩
    by_cases hji : j = i
    · subst hji; rw [hi] at hoj; injection hoj with hoj; subst hoj; exact H
    · have hm := ready_mono hj hji
      -- no order is left after i, but j is ready there
      exfalso
      have hno : ∀ h' e' w', dAny P noR ops K 0 (listed.setIfInBounds i true) h' e' w' → False := fun h' e' w' q => by
        have q1 := q.1; rw [q1] at hm; cases hm
      have H' := dOp_mono (K' := fun _ _ _ => False) (fun h' e' w' q => hno h' e' w' q) H
      exact dOp_false H'
  | succ fuel ih =>
    intro listed h e w hfree hcl hr H
    refine ⟨fun q => (by rw [q] at hr; cases hr), fun j hj oj hoj => ?_⟩
    by_cases hji : j = i
    · subst hji; rw [hi] at hoj; injection hoj with hoj; subst hoj; exact H
    · have hm := ready_mono hj hji
      obtain ⟨hjun, oj', hoj', hall⟩ := mem_ready.1 hj
      rw [hoj] at hoj'; injection hoj' with hoj'; subst hoj'
      have hjlt : j < ops.size := (Array.getElem?_eq_some_iff.1 hoj).1
      have hd := not_ahead hback hcl hj (mem_ready.1 hr).1
      have hd' := not_ahead hback hcl hr hjun
      have hp := hfree j hji hjun hjlt
      simp only [pairOk, hi, hoj, hd, Bool.false_or, Bool.and_eq_true, Bool.or_eq_true] at hp
      have H1 := dOp_mono (K' := fun h1 e1 => dOp P noR ops (befs ops.toList []) j oj (fun h' e' => dAny P noR ops K fuel ((listed.setIfInBounds i true).setIfInBounds j true) h' e') h1 e1)
        (fun h' e' w' q => q.2 j hm oj hoj) H
      have H2 := dOp_swap hp.1 (fun cs b => Region.noSelect_spec hns i oi cs b hi) (fun cs b => Region.noSelect_spec hns j oj cs b hoj) hd hd' (by rcases hp.2 with ((q | q) | q) | q <;> simp [q])
        (fun x y h e w q => dAny_hist K _ _ _ _ e w (by intro z; simp only [List.mem_cons]; constructor <;> (rintro (q | q | q) <;> simp [q])) q) H1
      refine dOp_mono (fun h' e' w' q => ?_) H2
      refine ih (listed.setIfInBounds j true) h' e' w' ?_ ?_ (ready_mono hr (Ne.symm hji)) ?_
      · intro k hki hun hk
        refine hfree k hki ?_ hk
        by_cases hjk : j = k
        · subst hjk; exact hjun
        · rw [getD_set_ne true hjk] at hun; exact hun
      · exact Closed_set hcl hoj hall
      · rw [Array.setIfInBounds_comm _ _ hji]; exact q
theorem closed_prefix (hback : ∀ (j : Nat) (o : Oper), ops[j]? = some o → ∀ e ∈ o.after, Region.binds .any e = true → e.on < j) {listed : Array Bool} {k : Nat}
    (hlist : ∀ j, j < ops.size → listed[j]? = some (decide (j < k))) : Closed ops listed := by
  intro j o ho hl e he hb
  have hj := (Array.getElem?_eq_some_iff.1 ho).1
  have hlt := hback j o ho e he hb
  have h1 := hlist j hj
  have h2 := hlist e.on (by omega)
  simp only [Array.getD_eq_getD_getElem?, h1, Option.getD_some, decide_eq_true_eq] at hl
  simp only [Array.getD_eq_getD_getElem?, h2, Option.getD_some, decide_eq_true_eq]; omega
theorem denD_any (hns : Region.noSelect ops = true) (hback : ∀ (j : Nat) (o : Oper), ops[j]? = some o → ∀ e ∈ o.after, Region.binds .any e = true → e.on < j) {K : Env → WP} : ∀ (l : List Oper) (k : Nat) (listed : Array Bool) (h : Hist) (e : Env) (w : World),
    (∀ j, l[j]? = ops[k + j]?) → k + l.length = ops.size → listed.size = ops.size →
    (∀ j, j < ops.size → listed[j]? = some (decide (j < k))) →
    (∀ j, j < ops.size → ∀ i, i < j → pairOk P ops (befs ops.toList []) i j = true) →
    denD P noR ops (befs ops.toList []) k l h e K w → dAny P noR ops K l.length listed h e w
  | [], k, listed, h, e, w, hl, hk, hsz, hlist, hc, hh => by
    refine ⟨?_, hh⟩
    cases hr : Region.ready .any ops listed with
    | nil => rfl
    | cons j r =>
      have hj : j ∈ Region.ready .any ops listed := by rw [hr]; exact List.mem_cons_self ..
      obtain ⟨hun, oj, hoj, _⟩ := mem_ready.1 hj
      have hlt := (Array.getElem?_eq_some_iff.1 hoj).1
      have := hlist j hlt
      simp at hk
      simp only [Array.getD_eq_getD_getElem?, this, Option.getD_some] at hun
      simp at hun; omega
  | o :: l, k, listed, h, e, w, hl, hk, hsz, hlist, hc, hh => by
    have h0 : ops[k]? = some o := by simpa using (hl 0).symm
    have hklt : k < ops.size := (Array.getElem?_eq_some_iff.1 h0).1
    simp only [denD] at hh
    refine dAny_first hns hback h0 l.length listed h e w ?_ ?_ ?_ ?_
    · intro j hjk hun hj
      have := hlist j hj
      simp only [Array.getD_eq_getD_getElem?, this, Option.getD_some] at hun
      simp at hun
      exact hc j hj k (by omega)
    · exact closed_prefix hback hlist
    · refine mem_ready.2 ⟨?_, o, h0, fun ed he hb => ?_⟩
      · have := hlist k hklt
        simp only [Array.getD_eq_getD_getElem?, this, Option.getD_some]; simp
      · have := hback k o h0 ed he hb
        have h2 := hlist ed.on (by omega)
        simp only [Array.getD_eq_getD_getElem?, h2, Option.getD_some]; simpa using this
    · refine dOp_mono (fun h' e' w' q => ?_) hh
      refine denD_any hns hback l (k + 1) _ h' e' w' ?_ ?_ (by simpa using hsz) ?_ hc q
      · intro j; have := hl (j + 1); simpa [Nat.add_assoc, Nat.add_comm 1 j] using this
      · simp at hk; omega
      · intro j hj
        rw [Array.getElem?_setIfInBounds]
        split
        · rename_i hkj; subst hkj; simp [hsz, hj]
        · rename_i hkj; rw [hlist j hj]; congr 1; simp; omega
/-- The region's closed facts. -/
def regOk (ops : Array Oper) : Bool := Region.noSelect ops && (List.range ops.size).all fun j => edgesBack ops j
theorem regOk_back (h : regOk ops = true) : ∀ (j : Nat) (o : Oper), ops[j]? = some o → ∀ e ∈ o.after, Region.binds .any e = true → e.on < j := by
  simp only [regOk, Bool.and_eq_true, List.all_eq_true, List.mem_range] at h
  intro j o ho e he hb
  have := h.2 j (Array.getElem?_eq_some_iff.1 ho).1
  simp only [edgesBack, ho, List.all_eq_true] at this
  have := this e (by simpa using he)
  simpa [hb] using this
theorem calm_any (hr : regOk ops = true) (hc : calm P ops = true) {K : Env → WP} {e : Env} {w : World} (hh : denD P noR ops (befs ops.toList []) 0 ops.toList [] e K w) :
    dAny P noR ops K ops.size (Array.replicate ops.size false) [] e w := by
  have hback := regOk_back hr
  simp only [calm, calmL, List.all_eq_true, List.mem_range] at hc
  simp only [regOk, Bool.and_eq_true] at hr
  have := denD_any hr.1 hback ops.toList 0 (Array.replicate ops.size false) [] e w (by simp) (by simp) (by simp) (by intro j hj; simp [hj]) (fun j hj => hc j hj) hh
  simpa using this
/-! ### each way -/
def cnt (ops : Array Oper) (listed : Array Bool) : Nat := ((List.range ops.size).filter fun j => !listed.getD j true).length
theorem filter_lt {p q : Nat → Bool} {i : Nat} (hp : p i = true) (hq : q i = false) (himp : ∀ j, q j = true → p j = true) : ∀ {l : List Nat}, i ∈ l → (l.filter q).length < (l.filter p).length
  | x :: l, h => by
    have hle : ∀ l : List Nat, (l.filter q).length ≤ (l.filter p).length := by
      intro l
      induction l with
      | nil => simp
      | cons y l ih =>
        simp only [List.filter_cons]
        cases hqy : q y with
        | false => cases p y <;> simp <;> omega
        | true => simp [himp y hqy]; omega
    simp only [List.filter_cons]
    rcases List.mem_cons.1 h with rfl | h
    · simp [hp, hq]; have := hle l; omega
    · have ih := filter_lt hp hq himp h
      cases hqx : q x with
      | false => cases p x <;> simp <;> omega
      | true => simp [himp x hqx]; exact ih
theorem cnt_set {listed : Array Bool} {i : Nat} (hi : i < ops.size) (hun : listed.getD i true = false) (hsz : listed.size = ops.size) : cnt ops (listed.setIfInBounds i true) < cnt ops listed := by
  have hset : (listed.setIfInBounds i true).getD i true = true := by simp [hsz, hi]
  refine filter_lt (i := i) (by simp only [hun]; rfl) (by rw [hset]; rfl) (fun j hj => ?_) (List.mem_range.2 hi)
  · by_cases hij : i = j
    · subst hij
      rw [hset] at hj; cases hj
    · rwa [getD_set_ne true hij] at hj
theorem allW_mem : ∀ {l : List WP} {x : WP} {w : World}, allW l w → x ∈ l → x w
  | [y], x, w, h, hx => by simp at hx; subst hx; exact h
  | y :: z :: r, x, w, h, hx => by
    rcases List.mem_cons.1 hx with rfl | hx
    · exact h.1
    · exact allW_mem h.2 hx
theorem denT_any (hns : Region.noSelect ops = true) (hback : ∀ (j : Nat) (o : Oper), ops[j]? = some o → ∀ e ∈ o.after, Region.binds .any e = true → e.on < j) {K : Env → WP} : ∀ (n : Nat) (listed : Array Bool) (h : Hist) (e : Env) (w : World),
    Closed ops listed → cnt ops listed ≤ n → listed.size = ops.size → denT P noR ops (befs ops.toList []) K n listed h e w → dAny P noR ops K n listed h e w := by
  intro n
  induction n with
  | zero =>
    intro listed h e w hcl hcnt hsz hh
    refine ⟨?_, hh⟩
    cases hr : Region.ready .any ops listed with
    | nil => rfl
    | cons j r =>
      exfalso
      have hj : j ∈ Region.ready .any ops listed := by rw [hr]; exact List.mem_cons_self ..
      obtain ⟨hun, oj, hoj, _⟩ := mem_ready.1 hj
      have := cnt_set (Array.getElem?_eq_some_iff.1 hoj).1 hun hsz
      omega
  | succ n ih =>
    intro listed h e w hcl hcnt hsz hh
    simp only [denT] at hh
    have go : ∀ i o, i ∈ Region.ready .any ops listed → ops[i]? = some o → dOp P noR ops (befs ops.toList []) i o (fun h' e' => denT P noR ops (befs ops.toList []) K n (listed.setIfInBounds i true) h' e') h e w →
        dOp P noR ops (befs ops.toList []) i o (fun h' e' => dAny P noR ops K n (listed.setIfInBounds i true) h' e') h e w := by
      intro i o hi ho q
      obtain ⟨hun, o', ho', hall⟩ := mem_ready.1 hi
      rw [ho] at ho'; injection ho' with ho'; subst ho'
      refine dOp_mono (fun h' e' w' q => ih _ h' e' w' (Closed_set hcl ho hall) ?_ (by simpa using hsz) q) q
      have := cnt_set (Array.getElem?_eq_some_iff.1 ho).1 hun hsz
      omega
    cases hr : Region.ready .any ops listed with
    | nil =>
      rw [hr] at hh
      exact ⟨fun _ => hh, fun i hi => by rw [hr] at hi; cases hi⟩
    | cons r rs =>
      rw [hr] at hh
      dsimp only at hh
      cases hf : (r :: rs).find? (comOk P ops (befs ops.toList []) listed) with
      | some i =>
        rw [hf] at hh
        dsimp only at hh
        have hi : i ∈ Region.ready .any ops listed := by rw [hr]; exact List.mem_of_find?_eq_some hf
        have hc := List.find?_some hf
        cases ho : ops[i]? with
        | none => rw [ho] at hh; exact hh.elim
        | some o =>
          rw [ho] at hh
          refine dAny_first hns hback ho n listed h e w ?_ hcl hi (go i o hi ho hh)
          intro j hji hun hj
          simp only [comOk, List.all_eq_true, List.mem_range] at hc
          have := hc j hj
          rw [hun, Bool.or_false, Bool.or_eq_true] at this
          rcases this with this | this
          · exact absurd (Nat.eq_of_beq_eq_true this).symm hji
          · exact this
      | none =>
        rw [hf] at hh
        refine ⟨fun q => (by rw [hr] at q; cases q), fun i hi o ho => ?_⟩
        refine go i o hi ho ?_
        have := allW_mem hh (List.mem_map.2 ⟨i, by rw [← hr]; exact hi, rfl⟩)
        rw [ho] at this; exact this
theorem tree_any (hr : regOk ops = true) {K : Env → WP} {e : Env} {w : World} (hh : denT P noR ops (befs ops.toList []) K ops.size (Array.replicate ops.size false) [] e w) :
    dAny P noR ops K ops.size (Array.replicate ops.size false) [] e w := by
  have hback := regOk_back hr
  simp only [regOk, Bool.and_eq_true] at hr
  refine denT_any hr.1 hback ops.size _ [] e w ?_ ?_ (by simp) hh
  · intro k o ho hl
    have hk := (Array.getElem?_eq_some_iff.1 ho).1
    simp [hk] at hl
  · unfold cnt
    exact Nat.le_trans (List.length_filter_le _ _) (by simp)
end
end Go.Proofs.Ytmmbepdghpjgeaa.Den
end
