/- A denotation in continuation form of the model's code: what a function's text asks of what follows it. Conditions: none. -/
import Derived.Orders
import Derived.LoopN
import Derived.Scope
import Derived.OrdersIn
import Derived.LoopNIn
import Derived.RangeFuncIn
import Derived.Laws.Sem
import Derived.KernelRfl
set_option linter.unusedVariables false
set_option linter.unusedSimpArgs false
namespace Go.Proofs.YthcekppbbanfeaaGreat.Den
open Go

abbrev ER := Ending → World → Prop
abbrev WP := World → Prop
abbrev VK := Value → WP
abbrev V1 := Value → WP
abbrev V2 := Value → V1
abbrev V3 := Value → V2
abbrev V4 := Value → V3
abbrev V5 := Value → V4
abbrev V6 := Value → V5
abbrev V7 := Value → V6
abbrev V8 := Value → V7
abbrev V9 := Value → V8
abbrev V10 := Value → V9
abbrev V11 := Value → V10
abbrev V12 := Value → V11
abbrev V13 := Value → V12
abbrev V14 := Value → V13
abbrev V15 := Value → V14
abbrev V16 := Value → V15
abbrev Env := Nat → Value

def upd (e : Env) (d : Nat) (v : Value) : Env := fun t => bif Nat.beq t d then v else e t
def updO (e : Env) : Option Nat → Value → Env
  | some d, v => upd e d v
  | none, _ => e
def ev (e : Env) : Operand → Value
  | .tmp t => e t
  | .const v => v
  | .global g => .pointer (some ⟨g, 0, none⟩)
  | .func f => .func (.func f) #[] #[]

/-- Array.map, so that the kernel can reckon it. -/
def amap {α β : Type} (f : α → β) (a : Array α) : Array β := ⟨a.toList.map f⟩
theorem amap_eq {α β : Type} (f : α → β) (a : Array α) : amap f a = a.map f := by
  cases a; simp [amap]
/-! ### pure operations -/
def pv (o : Option Value) (K : VK) : WP := match o with | some v => K v | none => fun _ => False
def pickO (c a b : Value) : Option Value := match c with | .bool t => some (bif t then a else b) | _ => none
def nilO (v : Value) : Option Value := match v with
  | .pointer (some a) => some (.pointer (some a))
  | .iface t u => some (.iface t u)
  | .func (.func f) a b => some (.func (.func f) a b)
  | _ => none
def faO (off : Nat) (v : Value) : Option Value := match v with
  | .pointer (some a) => some (.pointer (some (a.add off)))
  | _ => none
def ixA (n sz : Nat) (v i : Value) : Option Value := match v, i with
  | .pointer (some a), .int _ j => if 0 ≤ j ∧ j < (n : Int) then some (.pointer (some (a.add (j.toNat * sz)))) else none
  | _, _ => none
def ixS (sz : Nat) (v i : Value) : Option Value := match v, i with
  | .slice (some a) n _, .int _ j => if 0 ≤ j ∧ j < (n : Int) then some (.pointer (some (a.add (j.toNat * sz)))) else none
  | _, _ => none
def ixStr (v i : Value) : Option Value := match v, i with
  | .string s, .int _ j => if 0 ≤ j then (match s[j.toNat]? with | some b => some (.int .u8 b.toNat) | none => none) else none
  | _, _ => none
def fld1 (off : Nat) (v : Value) : Option Value := match v with | .agg cs => cs[off]? | _ => none
def fldN (off n : Nat) (v : Value) : Option Value := match v with | .agg cs => some (.agg (cs.extract off (off + n))) | _ => none
def ixV1 (n : Nat) (v i : Value) : Option Value := match v, i with
  | .agg cs, .int _ j => if 0 ≤ j ∧ j < (n : Int) then cs[j.toNat * 1]? else none
  | _, _ => none
def ixVN (n sz : Nat) (v i : Value) : Option Value := match v, i with
  | .agg cs, .int _ j => if 0 ≤ j ∧ j < (n : Int) then some (.agg (cs.extract (j.toNat * sz) (j.toNat * sz + sz))) else none
  | _, _ => none
def bitsI (op : BinOp) (k : IntKind) (a b : Int) : Option Value :=
  let x := BitVec.ofInt k.bits a
  let y := BitVec.ofInt k.bits b
  match op with
  | .and => some (.int k (k.wrap (x &&& y).toNat))
  | .or => some (.int k (k.wrap (x ||| y).toNat))
  | .xor => some (.int k (k.wrap (x ^^^ y).toNat))
  | .andNot => some (.int k (k.wrap (x &&& ~~~y).toNat))
  | _ => none
def bin (op : BinOp) (x y : Value) : Option Value := match x, y with
  | .int k a, .int k' b => match op with
    | .shl => if b < 0 then none else some (.int k (k.wrap (a * 2 ^ (min b.toNat k.bits))))
    | .shr => if b < 0 then none else some (.int k (a.fdiv (2 ^ (min b.toNat k.bits))))
    | .add => if k = k' then some (.int k (k.wrap (a + b))) else none
    | .sub => if k = k' then some (.int k (k.wrap (a - b))) else none
    | .mul => if k = k' then some (.int k (k.wrap (a * b))) else none
    | .quo => if k = k' ∧ b ≠ 0 then some (.int k (k.wrap (a.tdiv b))) else none
    | .rem => if k = k' ∧ b ≠ 0 then some (.int k (a.tmod b)) else none
    | .eql => if k = k' then some (.bool (a == b)) else none
    | .neq => if k = k' then some (.bool (a != b)) else none
    | .lss => if k = k' then some (.bool (decide (a < b))) else none
    | .leq => if k = k' then some (.bool (decide (a ≤ b))) else none
    | .gtr => if k = k' then some (.bool (decide (a > b))) else none
    | .geq => if k = k' then some (.bool (decide (a ≥ b))) else none
    | op => if k = k' then bitsI op k a b else none
  | _, _ => none
def binB (op : BinOp) (x y : Value) : Option Value := match x, y with
  | .bool a, .bool b => match op with
    | .eql => some (.bool (a == b))
    | .neq => some (.bool (!(a == b)))
    | _ => none
  | _, _ => none
def binS (op : BinOp) (x y : Value) : Option Value := match x, y with
  | .string a, .string b => match op with
    | .add => if ((a.size + b.size : Nat) : Int) > IntKind.i64.max then none else some (.string (a ++ b))
    | .eql => some (.bool (a.toList == b.toList))
    | .neq => some (.bool !(a.toList == b.toList))
    | .lss => some (.bool (Op.bytesLess a.toList b.toList))
    | .leq => some (.bool (Op.bytesLess a.toList b.toList || a.toList == b.toList))
    | .gtr => some (.bool !(Op.bytesLess a.toList b.toList || a.toList == b.toList))
    | .geq => some (.bool !(Op.bytesLess a.toList b.toList))
    | _ => none
  | _, _ => none
def eqNilP (x : Value) : Option Value := match x with | .pointer a => some (.bool a.isNone) | _ => none
def neNilP (x : Value) : Option Value := match x with | .pointer a => some (.bool !a.isNone) | _ => none
def eqNilS (x : Value) : Option Value := match x with | .slice a _ _ => some (.bool a.isNone) | _ => none
def neNilS (x : Value) : Option Value := match x with | .slice a _ _ => some (.bool !a.isNone) | _ => none
def unO (op : UnOp) (x : Value) : Option Value := match op, x with
  | .not, .bool b => some (.bool !b)
  | .neg, .int k n => some (.int k (k.wrap (0 - n)))
  | .xor, .int k n => bitsI .xor k (if k.signed then -1 else k.max) n
  | _, _ => none
def cvI (k : IntKind) (x : Value) : Option Value := match x with | .int _ n => some (.int k (k.wrap n)) | _ => none
def extO (i : Nat) (x : Value) : Option Value := match x with | .tuple vs => vs[i]? | _ => none
def arrO (n : Nat) (x : Value) : Option Value := match x with | .slice a len _ => if len < n then none else some (.pointer a) | _ => none
def lenS (x : Value) : Option Value := match x with | .slice _ n _ => some (.int .i64 n) | _ => none
def lenStr (x : Value) : Option Value := match x with | .string s => some (.int .i64 s.size) | _ => none
def boundO (x : Option Value) (y d : Nat) : Option Nat := match x with
  | some (.int _ i) => if 0 ≤ i ∧ i ≤ (y : Int) then some i.toNat else none
  | none => some d
  | _ => none
def slS (sz : Nat) (x : Value) (lo hi : Option Value) : Option Value := match x with
  | .slice a len cap => match boundO hi cap len with
    | some h => match boundO lo h 0 with
      | some l => some (.slice (if cap = l then a else a.map (·.add (l * sz))) (h - l) (cap - l))
      | none => none
    | none => none
  | _ => none
def slA (n sz : Nat) (x : Value) (lo hi : Option Value) : Option Value := match x with
  | .pointer (some a) => match boundO hi n n with
    | some h => match boundO lo h 0 with
      | some l => some (.slice (some (if n = l then a else a.add (l * sz))) (h - l) (n - l))
      | none => none
    | none => none
  | _ => none
def slStr (x : Value) (lo hi : Option Value) : Option Value := match x with
  | .string s => match boundO hi s.size s.size with
    | some h => match boundO lo h 0 with
      | some l => some (.string (s.extract l h))
      | none => none
    | none => none
  | _ => none
def min2I (x y : Value) : Option Value := match x, y with
  | .int k a, .int _ b => some (.int k (if b < a then b else a))
  | _, _ => none
def max2I (x y : Value) : Option Value := match x, y with
  | .int k a, .int _ b => some (.int k (if a < b then b else a))
  | _, _ => none
/-- The cells of a struct or array literal: its zero value with the given parts (place, size, value) laid in. -/
def buildL : List Value → List (Nat × Nat × Value) → Option (List Value)
  | cells, [] => some cells
  | cells, (off, sz, v) :: rest =>
    if v.cells.size ≠ sz ∨ off + sz > cells.length then none
    else buildL (cells.take off ++ v.cells.toList ++ cells.drop (off + sz)) rest
def bldO (zero : List Value) (parts : List (Nat × Nat × Value)) : Option Value :=
  match buildL zero parts with | some l => some (.agg l.toArray) | none => none

/-! ### operations on the world -/
def retK (R : ER) (K : VK) : ER
  | .returned v, w => K v w
  | .panicked ch, w => R (.panicked ch) w
  | .outgrown, _ => False
def stepK (P : Program) (R : ER) (K : VK) : Result Next → Prop
  | .ok (.value v) w => K v w
  | .ok .skip w => K undef w
  | .ok (.enter f args) w => Calls P f args w (retK R K)
  | .ok (.row row args) w => Rows P row args w fun v w' => K v w'
  | .ok (.round l f tmps assign body) w => RoundIn Fence.wide 0 P l f tmps assign body w (retK R K)
  | .halt (.panic v) w => R (.panicked [{ v, recovered := false }]) w
  | _ => False
def semV (P : Program) (R : ER) (s : Sem Next) (K : VK) : WP := fun w => stepK P R K (s.run P w)
def valV (P : Program) (R : ER) (s : Sem Value) (K : VK) : WP := fun w => match s.run P w with
  | .ok v w' => K v w'
  | .halt (.panic v) w' => R (.panicked [{ v, recovered := false }]) w'
  | _ => False
def unitV (P : Program) (R : ER) (s : Sem Unit) (K : VK) : WP := fun w => match s.run P w with
  | .ok _ w' => K undef w'
  | .halt (.panic v) w' => R (.panicked [{ v, recovered := false }]) w'
  | _ => False
def stab : List World → Addr → Value → Prop → Prop
  | [], _, _, G => G
  | w :: ws, a, c, G => w.cell? a = some c ∧ stab ws a c G
def ld1 (v : Value) (K : VK) : WP := fun w => match v with
  | .pointer (some a) => match w.cell? a with | some c => K c w | none => False
  | _ => False
def ld1S (ws : List World) (v : Value) (K : VK) : WP := fun w => match v with
  | .pointer (some a) => match w.cell? a with | some c => stab ws a c (K c w) | none => False
  | _ => False
def cellsAt (w : World) (a : Addr) (i : Nat) : Nat → Option (List Value)
  | 0 => some []
  | n + 1 => match w.cell? (a.add i) with
    | some c => match cellsAt w a (i + 1) n with | some l => some (c :: l) | none => none
    | none => none
def stabN : List World → Addr → Nat → List Value → Prop → Prop
  | [], _, _, _, G => G
  | w :: ws, a, n, cs, G => cellsAt w a 0 n = some cs ∧ stabN ws a n cs G
def ldN (n : Nat) (v : Value) (K : VK) : WP := fun w => match v with
  | .pointer (some a) => match cellsAt w a 0 n with | some cs => K (.agg cs.toArray) w | none => False
  | _ => False
def ldNS (ws : List World) (n : Nat) (v : Value) (K : VK) : WP := fun w => match v with
  | .pointer (some a) => match cellsAt w a 0 n with | some cs => stabN ws a n cs (K (.agg cs.toArray) w) | none => False
  | _ => False
def scalar : Value → Bool
  | .agg _ => false
  | .tuple _ => false
  | _ => true
def st1 (v x : Value) (K : VK) : WP := fun w => match v with
  | .pointer (some a) => scalar x = true ∧ (w.cell? a).isSome = true ∧ w.frozen? a = false ∧ K undef (w.setCell a x)
  | _ => False
def stCells (a : Addr) : List Value → Nat → WP → WP
  | [], _, G => G
  | c :: cs, i, G => fun w => scalar c = true ∧ (w.cell? (a.add i)).isSome = true ∧ w.frozen? (a.add i) = false ∧ stCells a cs (i + 1) G (w.setCell (a.add i) c)
def stN (n : Nat) (v x : Value) (K : VK) : WP := fun w => match v, x with
  | .pointer (some a), .agg cs => cs.size = n ∧ stCells a cs.toList 0 (K undef) w
  | _, _ => False
def bx (t : TypeId) (v : Value) (K : VK) : WP := fun w => K (.pointer (some ⟨w.heap.size, 0, none⟩)) (w.alloc (.cells v.cells t))
def al (P : Program) (t : TypeId) (K : VK) : WP := fun w => match (P.info? t).bind (·.zero) with
  | some z => K (.pointer (some ⟨w.heap.size, 0, none⟩)) (w.alloc (.cells z.cells t))
  | none => False
def cal (P : Program) (R : ER) (f : FuncId) (args : Array Value) (K : VK) : WP := fun w => Calls P f args w (retK R K)
def enterOk (P : Program) (f : FuncId) : Bool := match P.funcs[f]? with | some fn => fn.body.isSome | none => false
def calD (P : Program) (R : ER) (v : Value) (args : Array Value) (K : VK) : WP := match v with
  | .func (.func f) first captured => bif enterOk P f then cal P R f (first ++ args ++ captured) K else semV P R (do let d ← Deferred.ofValue v args; invoke d.target d.args) K
  | _ => semV P R (do let d ← Deferred.ofValue v args; invoke d.target d.args) K
def ivk (P : Program) (R : ER) (recv : Value) (name : String) (args : Array Value) (K : VK) : WP :=
  semV P R (invoke (.fn (.method name) #[]) (#[recv] ++ args)) K
def blt (P : Program) (R : ER) (b : Builtin) (argTypes : Array TypeId) (type : TypeId) (consts : Array Bool) (args : Array Value) (K : VK) : WP :=
  semV P R (builtin b argTypes type consts args) K
@[reducible] def mem (F : World → WP) : WP := fun w => F w w
@[reducible] def drewV (F : WP) : WP := fun w => F w.drew
def gd (v : Value) (want : Bool) (F : VK → WP) (K : VK) : WP := match v with
  | .bool b => bif b == want then F K else K undef
  | _ => K undef
def cnd (v : Value) (A B : WP) : WP := match v with
  | .bool b => bif b then A else B
  | _ => fun _ => False
def exN (F : Nat → WP) : WP := fun w => ∃ n, F n w

/-! ### the operations by the type tables -/
def isAggO (P : Program) (t : TypeId) : Option Bool := match P.underlying t with
  | some (.struct _) => some true
  | some (.array _ _) => some true
  | some _ => some false
  | none => none
def szO (P : Program) (t : TypeId) : Option Nat := (P.info? t).map (·.size)
def partsO (P : Program) (t : TypeId) (e : Env) (parts : List (Nat × Operand)) : Option (List (Nat × Nat × Value)) := match P.underlying t with
  | some (.struct fs) => parts.mapM fun p => match fs[p.1]? with
    | some f => match szO P f.type with | some s => some (f.offset, s, ev e p.2) | none => none
    | none => none
  | some (.array _ el) => match szO P el with
    | some s => some (parts.map fun p => (p.1 * s, s, ev e p.2))
    | none => none
  | _ => none
/-- May a literal of this type be built here: its zero value's cells, and each part's place and size. -/
def fieldsSized (P : Program) (t : TypeId) : Bool := match P.underlying t with
  | some (.struct fs) => fs.toList.all fun f => (szO P f.type).isSome
  | some (.array _ el) => (szO P el).isSome
  | _ => false
def placeO (P : Program) (t : TypeId) (i : Nat) : Option (Nat × Nat) := match P.underlying t with
  | some (.struct fs) => match fs[i]? with
    | some f => match szO P f.type with | some s => some (f.offset, s) | none => none
    | none => none
  | some (.array _ el) => match szO P el with | some s => some (i * s, s) | none => none
  | _ => none
def placesO (P : Program) (t : TypeId) : List (Nat × Operand) → Option (List (Nat × Nat × Operand))
  | [] => some []
  | (i, x) :: r => match placeO P t i with
    | some (o, s) => match placesO P t r with | some l => some ((o, s, x) :: l) | none => none
    | none => none
def evParts (e : Env) : List (Nat × Nat × Operand) → List (Nat × Nat × Value)
  | [] => []
  | (o, s, x) :: r => (o, s, ev e x) :: evParts e r
/-! ### '==' at structs of plain cells -/
def leavesF (P : Program) (rc : TypeId → Option (List Nat)) : Nat → List Field → Option (List Nat)
  | _, [] => some []
  | off, f :: fs => bif f.name == "_" || !(Nat.beq f.offset off) then none else match rc f.type, szO P f.type with
    | some l, some s => bif Nat.beq l.length s then (match leavesF P rc (off + s) fs with | some r => some (l ++ r) | none => none) else none
    | _, _ => none
/-- The kinds of a type's cells, where all of them are numbers, bools, strings. -/
def leaves (P : Program) : Nat → TypeId → Option (List Nat)
  | 0, _ => none
  | d + 1, t => match P.underlying t with
    | some (.int _) => some [0]
    | some .bool => some [1]
    | some .string => some [2]
    | some (.struct fs) => bif P.stoodInHeld t then none else leavesF P (leaves P d) 0 fs.toList
    | _ => none
def eqLeaf : Nat → Value → Value → Option Bool
  | 0, .int k a, .int k' b => if k = k' then some (a == b) else none
  | 1, .bool a, .bool b => some (a == b)
  | 2, .string a, .string b => some (a == b)
  | _, _, _ => none
def eqCells : List Nat → List Value → List Value → Option Bool
  | [], [], [] => some true
  | k :: ks, x :: xs, y :: ys => match eqLeaf k x y, eqCells ks xs ys with
    | some a, some b => some (a && b)
    | _, _ => none
  | _, _, _ => none
def eqAgg (ks : List Nat) (x y : Value) : Option Value := match x, y with
  | .agg xs, .agg ys => match eqCells ks xs.toList ys.toList with | some b => some (.bool b) | none => none
  | _, _ => none
def neAgg (ks : List Nat) (x y : Value) : Option Value := match x, y with
  | .agg xs, .agg ys => match eqCells ks xs.toList ys.toList with | some b => some (.bool !b) | none => none
  | _, _ => none
def binFn (P : Program) (op : BinOp) (t : TypeId) (x y : Operand) : Option (Env → Option Value) := match P.underlying t with
  | some (.int _) => some fun e => bin op (ev e x) (ev e y)
  | some .bool => some fun e => binB op (ev e x) (ev e y)
  | some .string => some fun e => binS op (ev e x) (ev e y)
  | some (.pointer _) => match op, y with
    | .eql, .const (.pointer none) => some fun e => eqNilP (ev e x)
    | .neq, .const (.pointer none) => some fun e => neNilP (ev e x)
    | _, _ => none
  | some (.slice _) => match op, y with
    | .eql, .const (.slice none 0 0) => some fun e => eqNilS (ev e x)
    | .neq, .const (.slice none 0 0) => some fun e => neNilS (ev e x)
    | _, _ => none
  | some (.struct _) => match leaves P 20 t, P.eqGuardType P.depth t with
    | some ks, false => match op with
      | .eql => some fun e => eqAgg ks (ev e x) (ev e y)
      | .neq => some fun e => neAgg ks (ev e x) (ev e y)
      | _ => none
    | _, _ => none
  | _ => none
def pureFn (P : Program) : Op → Option (Env → Option Value)
  | .move x => some fun e => some (ev e x)
  | .assign x => some fun e => some (ev e x)
  | .pick c a b => some fun e => pickO (ev e c) (ev e a) (ev e b)
  | .nilCheck x => some fun e => nilO (ev e x)
  | .fieldAddr t x f => match P.underlying t with
    | some (.struct fs) => match fs[f]? with
      | some fd => match szO P fd.type with
        | some (_ + 1) => some fun e => faO fd.offset (ev e x)
        | _ => none
      | none => none
    | _ => none
  | .indexAddr t x i => match P.underlying t with
    | some (.array n el) => match szO P el with | some s => some fun e => ixA n s (ev e x) (ev e i) | none => none
    | some (.slice el) => match szO P el with | some s => some fun e => ixS s (ev e x) (ev e i) | none => none
    | _ => none
  | .index t x i => match P.underlying t with
    | some .string => some fun e => ixStr (ev e x) (ev e i)
    | some (.array n el) => match isAggO P el, szO P el with
      | some true, some s => some fun e => ixVN n s (ev e x) (ev e i)
      | some false, some 1 => some fun e => ixV1 n (ev e x) (ev e i)
      | _, _ => none
    | _ => none
  | .field t x f => match P.underlying t with
    | some (.struct fs) => match fs[f]? with
      | some fd => match isAggO P fd.type, szO P fd.type with
        | some true, some s => some fun e => fldN fd.offset s (ev e x)
        | some false, some _ => some fun e => fld1 fd.offset (ev e x)
        | _, _ => none
      | none => none
    | _ => none
  | .binOp op t x y _ => binFn P op t x y
  | .unOp op _ x => some fun e => unO op (ev e x)
  | .convert s d x => match P.underlying s, P.underlying d with
    | some (.int _), some (.int k) => some fun e => cvI k (ev e x)
    | _, _ => none
  | .makeInterface t x => match P.underlying t with
    | some (.interface _) => none
    | some _ => some fun e => some (.iface t (ev e x))
    | none => none
  | .makeFunc fn first captured => some fun e => some (.func fn (amap (ev e) first) (amap (ev e) captured))
  | .extract x i => some fun e => extO i (ev e x)
  | .build t parts => match (P.info? t).bind (·.zero), placesO P t parts.toList, fieldsSized P t with
    | some z, some l, true => some fun e => bldO z.cells.toList (evParts e l)
    | _, _, _ => none
  | .slice t x lo hi none => match P.underlying t with
    | some (.slice el) => match szO P el with | some s => some fun e => slS s (ev e x) (lo.map (ev e)) (hi.map (ev e)) | none => none
    | some (.array n el) => match szO P el with | some s => some fun e => slA n s (ev e x) (lo.map (ev e)) (hi.map (ev e)) | none => none
    | some .string => some fun e => slStr (ev e x) (lo.map (ev e)) (hi.map (ev e))
    | _ => none
  | .call { callee := .builtin .len, args := ⟨[x]⟩, argTypes := ⟨[t]⟩ } => match P.underlying t with
    | some (.slice _) => some fun e => lenS (ev e x)
    | some .string => some fun e => lenStr (ev e x)
    | some (.array n _) => some fun _ => some (.int .i64 n)
    | _ => none
  | .call { callee := .builtin .min, args := ⟨[x, y]⟩, argTypes := ⟨[t, _]⟩ } => match P.underlying t with
    | some (.int _) => some fun e => min2I (ev e x) (ev e y)
    | _ => none
  | .call { callee := .builtin .max, args := ⟨[x, y]⟩, argTypes := ⟨[t, _]⟩ } => match P.underlying t with
    | some (.int _) => some fun e => max2I (ev e x) (ev e y)
    | _ => none
  | .sliceToArrayPointer t x => match P.underlying t with
    | some (.array n _) => some fun e => arrO n (ev e x)
    | _ => none
  | _ => none
def ldK (P : Program) (ws : List World) (t : TypeId) (v : Value) (K : VK) : WP := match isAggO P t with
  | some true => match szO P t with
    | some n => match ws with | [] => ldN n v K | _ :: _ => ldNS ws n v K
    | none => fun _ => False
  | some false => match ws with | [] => ld1 v K | _ :: _ => ld1S ws v K
  | none => fun _ => False
def stK (P : Program) (t : TypeId) (v x : Value) (K : VK) : WP := match isAggO P t with
  | some true => match szO P t with
    | some n => stN n v x K
    | none => fun _ => False
  | some false => match szO P t with
    | some 1 => st1 v x K
    | _ => fun _ => False
  | none => fun _ => False
/-- What is neither pure nor a load. -/
def effK (P : Program) (R : ER) (o : Oper) (e : Env) (K : VK) : WP := match o.op with
  | .store t a x => stK P t (ev e a) (ev e x) K
  | .alloc t => al P t K
  | .box t x => bx t (ev e x) K
  | .fieldAddr t x f => valV P R (Instr.fieldAt t (ev e x) f) K
  | .binOp op t x y _ => valV P R (do eqGuard op t x y (ev e x) (ev e y); binOp op t (ev e x) (ev e y)) K
  | .convert s d x => valV P R (convert s d (ev e x)) K
  | .build t parts => valV P R (Instr.build t (amap (fun (i, x) => (i, ev e x)) parts)) K
  | .buildSlice t n parts => valV P R (Instr.buildSlice t n (amap (fun (i, x) => (i, ev e x)) parts)) K
  | .makeMap t r => valV P R (Instr.makeMap t (r.map (ev e))) K
  | .makeSlice t l c => valV P R (Instr.makeSlice t (ev e l) (ev e c)) K
  | .slice t x lo hi mx => valV P R (Instr.sliceAt t (ev e x) (lo.map (ev e)) (hi.map (ev e)) (mx.map (ev e))) K
  | .index t x i => valV P R (Instr.index t (ev e x) (ev e i)) K
  | .lookup t x i ok => valV P R (Instr.lookup t (ev e x) (ev e i) ok) K
  | .mapUpdate t m k x => unitV P R (Instr.mapUpdate t (ev e m) (ev e k) (ev e x)) K
  | .insert t m k x => unitV P R (Instr.mapUpdate t (ev e m) (ev e k) (ev e x)) K
  | .mapEntry t m k => valV P R (Instr.mapEntry t (ev e m) (ev e k)) K
  | .entryStore t m s x => unitV P R (Instr.entryStore t (ev e m) (ev e s) (ev e x)) K
  | .range t x => valV P R (Instr.range t (ev e x)) K
  | .next it s => valV P R (Instr.next (ev e it) s o.type) K
  | .entry it => valV P R (Instr.entry (ev e it)) K
  | .typeAssert x t a ok => valV P R (Instr.typeAssert (ev e x) t a ok) K
  | .sliceToArrayPointer t x => valV P R (Instr.arrayAt t (ev e x)) K
  | .panic x => valV P R (Instr.panic (ev e x)) K
  | .call c => match c.callee with
    | .value (.func f) => bif enterOk P f then cal P R f (amap (ev e) c.args) K else semV P R (execOp (ev e) o) K
    | .value f => calD P R (ev e f) (amap (ev e) c.args) K
    | .invoke recv name => ivk P R (ev e recv) name (amap (ev e) c.args) K
    | .builtin b => blt P R b c.argTypes o.type (amap (fun | .const _ => true | _ => false) c.args) (amap (ev e) c.args) K
  | _ => fun _ => False
/-- Equality that asks the world. -/
def eqK (P : Program) (R : ER) (op : BinOp) (t : TypeId) (x y : Operand) (a b : Value) (K : VK) : WP := valV P R (do eqGuard op t x y a b; binOp op t a b) K
/-- One operation; 'ws': worlds at which a load must read the same. -/
def opK (P : Program) (R : ER) (ws : List World) (o : Oper) (e : Env) (K : VK) : WP := match pureFn P o.op with
  | some f => pv (f e) K
  | none => match o.op with
    | .load t a => ldK P ws t (ev e a) K
    | _ => effK P R o e K
def guardTmp (ops : Array Oper) (j : Nat) : Option Nat := (ops[j]?).bind (·.dst)
def gOp (P : Program) (R : ER) (ops : Array Oper) (ws : List World) (o : Oper) (e : Env) (K : VK) : WP := match o.guard with
  | none => opK P R ws o e K
  | some (j, want) => match guardTmp ops j with
    | some t => gd (e t) want (opK P R ws o e) K
    | none => K undef
def denOps (P : Program) (R : ER) (ops : Array Oper) : List Oper → Env → (Env → WP) → WP
  | [], e, K => K e
  | o :: rest, e, K => gOp P R ops [] o e fun v => denOps P R ops rest (updO e o.dst v) K

/-! ### regions whose order is open -/
/-- What has been met: an effect and the world it began in; a load that was wanted or not, and what it read. -/
inductive HE where
  | eff (w : World)
  | ld (on : Bool) (t : TypeId) (x v : Value)
abbrev Hist := List (Nat × HE)
def isPure (P : Program) (o : Oper) : Bool := (pureFn P o.op).isSome
def isLoad (o : Oper) : Bool := match o.op with | .load _ _ => true | _ => false
/-- Which operations stand ahead of each, over one edge or several (as bits). -/
def befStep (acc : List Nat) (o : Oper) : Nat := o.after.toList.foldl (fun s e => bif Region.binds .any e then s ||| 2 ^ e.on ||| acc.getD e.on 0 else s) 0
def befs : List Oper → List Nat → List Nat
  | [], acc => acc
  | o :: r, acc => befs r (acc ++ [befStep acc o])
/-- Does i stand ahead of j? -/
def ordd (L : List Nat) (i j : Nat) : Bool := (L.getD j 0).testBit i
def worlds (L : List Nat) (j : Nat) : Hist → List World
  | [] => []
  | (i, .eff w) :: h => bif ordd L i j then worlds L j h else w :: worlds L j h
  | (_, .ld _ _ _ _) :: h => worlds L j h
/-- The loads that do not stand ahead of j: they must read the same behind j. -/
def loadsH (L : List Nat) (j : Nat) : Hist → List (Bool × TypeId × Value × Value)
  | [] => []
  | (i, .ld on t x v) :: h => bif ordd L i j then loadsH L j h else (on, t, x, v) :: loadsH L j h
  | (_, .eff _) :: h => loadsH L j h
def rd1 (x v : Value) (G : WP) : WP := fun w => (match x with | .pointer (some a) => w.cell? a = some v | _ => False) ∧ G w
def rdN (n : Nat) (x v : Value) (G : WP) : WP := fun w => (match x, v with | .pointer (some a), .agg cs => cellsAt w a 0 n = some cs.toList | _, _ => False) ∧ G w
def ck (on : Bool) (F : WP → WP) (G : WP) : WP := bif on then F G else G
def onV (v : Value) (b : Bool) : Bool := match v with | .bool c => c == b | _ => false
def rdK (P : Program) (t : TypeId) (x v : Value) (G : WP) : WP := match isAggO P t with
  | some true => match szO P t with | some n => rdN n x v G | none => fun _ => False
  | some false => rd1 x v G
  | none => fun _ => False
def stabL (P : Program) : List (Bool × TypeId × Value × Value) → WP → WP
  | [], G => G
  | (on, t, x, v) :: r, G => ck on (rdK P t x v) (stabL P r G)
/-- The guard of an operation: is it wanted? -/
def want (ops : Array Oper) (o : Oper) (e : Env) : Bool := match o.guard with
  | none => true
  | some (j, b) => match guardTmp ops j with
    | some t => onV (e t) b
    | none => false
def dOp (P : Program) (R : ER) (ops : Array Oper) (L : List Nat) (i : Nat) (o : Oper) (K : Hist → Env → WP) (h : Hist) (e : Env) : WP :=
  match pureFn P o.op with
  | some _ => gOp P R ops [] o e fun v => K h (updO e o.dst v)
  | none => match o.op with
    | .load t a => gOp P R ops (worlds L i h) o e fun v => K ((i, .ld (want ops o e) t (ev e a) v) :: h) (updO e o.dst v)
    | _ => mem fun wi => gOp P R ops [] o e fun v => stabL P (loadsH L i h) (K ((i, .eff wi) :: h) (updO e o.dst v))
def denD (P : Program) (R : ER) (ops : Array Oper) (L : List Nat) : Nat → List Oper → Hist → Env → (Env → WP) → WP
  | _, [], _, e, K => K e
  | i, o :: rest, h, e, K => dOp P R ops L i o (fun h' e' => denD P R ops L (i + 1) rest h' e' K) h e
/-- May i be taken ahead of j, where the order leaves it open? -/
def pairOk (P : Program) (ops : Array Oper) (L : List Nat) (i j : Nat) : Bool := match ops[i]?, ops[j]? with
  | some oi, some oj => ordd L i j || (oi.apart ops oj && (isPure P oi || isPure P oj || isLoad oi || isLoad oj))
  | _, _ => true
def edgesBack (ops : Array Oper) (j : Nat) : Bool := match ops[j]? with
  | some o => o.after.toList.all fun e => !Region.binds .any e || decide (e.on < j)
  | none => true
def calmL (P : Program) (ops : Array Oper) (L : List Nat) : Bool :=
  (List.range ops.size).all fun j => (List.range j).all fun i => pairOk P ops L i j
/-- May the region be read in the order of its text? -/
def calm (P : Program) (ops : Array Oper) : Bool := calmL P ops (befs ops.toList [])
def comOk (P : Program) (ops : Array Oper) (L : List Nat) (listed : Array Bool) (i : Nat) : Bool :=
  (List.range ops.size).all fun j => Nat.beq i j || listed.getD j true || pairOk P ops L i j
def allW : List WP → WP
  | [] => fun _ => True
  | [x] => x
  | x :: r => fun w => x w ∧ allW r w
/-- The region in an order that is open: what may be taken first is taken first; where nothing may, each way. -/
def denT (P : Program) (R : ER) (ops : Array Oper) (L : List Nat) (K : Env → WP) : Nat → Array Bool → Hist → Env → WP
  | 0, _, _, e => K e
  | n + 1, listed, h, e =>
    let one : Nat → WP := fun i => match ops[i]? with
      | some o => dOp P R ops L i o (fun h' e' => denT P R ops L K n (listed.setIfInBounds i true) h' e') h e
      | none => fun _ => False
    match Region.ready .any ops listed with
    | [] => K e
    | r :: rs => match (r :: rs).find? (comOk P ops L listed) with
      | some i => one i
      | none => allW ((r :: rs).map one)

/-- In a region whose order is open no call may panic. -/
def noR : ER := fun _ _ => False
/-! ### code -/
structure Kont where
  n : Env → WP
  x : Nat → Env → WP
  r : Env → WP
def inB (id : Nat) (k : Kont) : Kont := { k with x := fun i e => bif Nat.beq i id then k.n e else k.x i e }
/-- Rounds of a loop whose body means D: at most n. -/
def iterL (D : Env → Kont → WP) : Nat → Env → Kont → WP
  | 0, _, _ => fun _ => False
  | n + 1, e, k => D e { k with n := fun e' => iterL D n e' k }
def den (P : Program) (R : ER) : Code → Env → Kont → WP
  | .skip, e, k => k.n e
  | .label _, e, k => k.n e
  | .region _ ops false, e, k => denOps P R ops ops.toList e k.n
  | .region _ ops true, e, k => drewV (bif calm P ops then denD P noR ops (befs ops.toList []) 0 ops.toList [] e k.n else denT P noR ops (befs ops.toList []) k.n ops.size (Array.replicate ops.size false) [] e)
  | .seq a b, e, k => den P R a e { k with n := fun e' => den P R b e' k }
  | .cond c t f, e, k => cnd (ev e c) (den P R t e k) (den P R f e k)
  | .block id b, e, k => den P R b e (inB id k)
  | .loop b, e, k => exN fun n => iterL (den P R b) n e k
  | .scope b, e, k => den P R b e k
  | .exit id, e, k => k.x id e
  | .ret, e, k => k.r e
  | _, _, _ => fun _ => False
end Go.Proofs.YthcekppbbanfeaaGreat.Den
