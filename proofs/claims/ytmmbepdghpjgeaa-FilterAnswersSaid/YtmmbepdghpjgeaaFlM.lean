/- Packet filter: rules, packets, and the reading of a rule's text, as plain data. Conditions: none. -/
import Derived.Test.YtmmbepdghpjgeaaOt
set_option linter.unusedVariables false
set_option linter.unusedSimpArgs false
set_option maxRecDepth 8000
namespace Go.Proofs.Ytmmbepdghpjgeaa.Den
open Go Go.RowKit
abbrev U32 (n : Int) : Value := .int .u32 n
structure Pat where
  adr : Int
  bits : Int
  no : Bool
structure Rng where
  low : Int
  high : Int
structure Rul where
  act : Int
  quick : Bool
  keep : Bool
  dir : Int
  ifc : Int
  proto : Int
  src : Pat
  dst : Pat
  fr : Rng
  to : Rng
structure Pkt where
  dir : Int
  ifc : Int
  src : Int
  dst : Int
  proto : Int
  fr : Int
  to : Int
  start : Bool
def Pat.enc (p : Pat) : List Value := [U32 p.adr, I p.bits, .bool p.no]
def Rng.enc (r : Rng) : List Value := [I r.low, I r.high]
def Rul.enc (r : Rul) : List Value := [I r.act, .bool r.quick, .bool r.keep, I r.dir, I r.ifc, I r.proto, U32 r.src.adr, I r.src.bits, .bool r.src.no, U32 r.dst.adr, I r.dst.bits, .bool r.dst.no, I r.fr.low, I r.fr.high, I r.to.low, I r.to.high]
def Pkt.enc (p : Pkt) : List Value := [I p.dir, I p.ifc, U32 p.src, U32 p.dst, I p.proto, I p.fr, I p.to, .bool p.start]
theorem Rul.enc_len (r : Rul) : r.enc.length = 16 := rfl
theorem Rul.enc_sc (r : Rul) : ∀ c ∈ r.enc, scalar c = true := by intro c hc; simp only [Rul.enc, List.mem_cons, List.not_mem_nil, or_false] at hc; rcases hc with rfl | rfl | rfl | rfl | rfl | rfl | rfl | rfl | rfl | rfl | rfl | rfl | rfl | rfl | rfl | rfl <;> rfl
theorem Pkt.enc_len (r : Pkt) : r.enc.length = 8 := rfl
theorem Pkt.enc_sc (r : Pkt) : ∀ c ∈ r.enc, scalar c = true := by intro c hc; simp only [Pkt.enc, List.mem_cons, List.not_mem_nil, or_false] at hc; rcases hc with rfl | rfl | rfl | rfl | rfl | rfl | rfl | rfl <;> rfl
def cRul : Cod Rul := ⟨16, Rul.enc, fun _ => rfl, by intro r c hc; simp only [Rul.enc, List.mem_cons, List.not_mem_nil, or_false] at hc; rcases hc with rfl | rfl | rfl | rfl | rfl | rfl | rfl | rfl | rfl | rfl | rfl | rfl | rfl | rfl | rfl | rfl <;> rfl⟩
def cPkt : Cod Pkt := ⟨8, Pkt.enc, fun _ => rfl, by intro r c hc; simp only [Pkt.enc, List.mem_cons, List.not_mem_nil, or_false] at hc; rcases hc with rfl | rfl | rfl | rfl | rfl | rfl | rfl | rfl <;> rfl⟩
def cI : Cod Int := ⟨1, fun n => [I n], fun _ => rfl, by intro a c hc; simp at hc; subst hc; rfl⟩
def cStr : Cod ByteArray := ⟨1, fun s => [.string s], fun _ => rfl, by intro a c hc; simp at hc; subst hc; rfl⟩
def cBool : Cod Bool := ⟨1, fun b => [.bool b], fun _ => rfl, by intro a c hc; simp at hc; subst hc; rfl⟩

/-! ### checks -/
/-- Addresses are 32 bits. -/
def Pat.Ok (p : Pat) : Prop := 0 ≤ p.adr ∧ p.adr < 4294967296
def Rul.Ok (r : Rul) : Prop := r.src.Ok ∧ r.dst.Ok
def Pkt.Ok (p : Pkt) : Prop := (0 ≤ p.src ∧ p.src < 4294967296) ∧ (0 ≤ p.dst ∧ p.dst < 4294967296)
def inn (n lo hi : Int) : Bool := decide (lo ≤ n) && decide (n ≤ hi)
def Pat.behind (p : Pat) : Bool := decide (IntKind.u64.wrap (BitVec.ofInt 64 (IntKind.u64.wrap (p.adr * 2 ^ (min p.bits.toNat 64))) &&& BitVec.ofInt 64 4294967295).toNat ≠ 0)
def Rng.valid (r : Rng) : Bool := decide (0 ≤ r.low) && decide (r.low ≤ r.high) && decide (r.high ≤ 65535)
def Rul.check (r : Rul) : Int :=
  if !inn r.act 1 2 || !inn r.dir 1 3 then 17
  else if !inn r.ifc (-1) 255 || !inn r.proto (-1) 255 || !inn r.src.bits 0 32 || !inn r.dst.bits 0 32 || !r.fr.valid || !r.to.valid then 34
  else if r.src.behind || r.dst.behind || (r.keep && decide (r.act = 2)) then 14
  else 0
def Pkt.check (p : Pkt) : Int :=
  if !inn p.dir 1 2 then 17
  else if !inn p.ifc 0 255 || !inn p.proto 0 255 || !inn p.fr 0 65535 || !inn p.to 0 65535 then 34
  else 0
def Pat.has (p : Pat) (a : Int) : Bool := !(decide (a.fdiv (2 ^ (min (32 - p.bits).toNat 64)) = p.adr.fdiv (2 ^ (min (32 - p.bits).toNat 64))) == p.no)
def Rng.has (r : Rng) (n : Int) : Bool := inn n r.low r.high
def dirMeet (a b : Int) : Bool := decide (IntKind.i64.wrap (BitVec.ofInt 64 a &&& BitVec.ofInt 64 b).toNat ≠ 0)
def Rul.fits (r : Rul) (p : Pkt) : Bool :=
  dirMeet r.dir p.dir && (decide (r.ifc = -1) || decide (r.ifc = p.ifc)) && (decide (r.proto = -1) || decide (r.proto = p.proto)) && r.src.has p.src && r.dst.has p.dst && r.fr.has p.fr && r.to.has p.to
def firstBad : List Rul → Int
  | [] => 0
  | r :: l => if r.check ≠ 0 then r.check else firstBad l
def checkAll (l : List Rul) : Int := if 200 < l.length then 18 else firstBad l
/-- The rule that decides, from place i on; 'last' so far. -/
def decFrom (p : Pkt) : List Rul → Nat → Int → Int
  | [], _, last => last
  | r :: l, i, last => if !r.fits p then decFrom p l (i + 1) last else if r.quick then (i : Int) else decFrom p l (i + 1) (i : Int)
def deciding (l : List Rul) (p : Pkt) : Int := decFrom p l 0 (-2)

/-! ### reading a text -/
def bts (S : ByteArray) : List Nat := S.data.toList.map (·.toNat)
def chr (S : ByteArray) (i : Nat) : Nat := (bts S).getD i 10
def endsP (S : ByteArray) (i : Nat) : Bool := decide (S.size ≤ i) || chr S i == 32
def runOf (l : List Nat) : List Nat := l.takeWhile (· != 32)
def wordAt (S : ByteArray) (i : Nat) : List Nat := runOf ((bts S).drop i)
def chooseP (S : ByteArray) (i : Nat) (ws : List ByteArray) : Option (Nat × Nat) :=
  (ws.findIdx? fun w => bts w == wordAt S i).map fun k => (k, i + (wordAt S i).length)
def signP (S : ByteArray) (i : Nat) (c : Nat) : Option Nat := if chr S i = c then some (i + 1) else none
def isDig (n : Nat) : Bool := decide (48 ≤ n) && decide (n ≤ 57)
def digitsOf : List Nat → List Nat
  | 48 :: _ => [48]
  | l => l.takeWhile isDig
def valOf (l : List Nat) : Nat := l.foldl (fun n d => 10 * n + (d - 48)) 0
def numP (S : ByteArray) (i : Nat) (low high no : Int) : Option (Nat × Nat) :=
  let d := digitsOf ((bts S).drop i)
  if d = [] ∨ (valOf d : Int) < low ∨ high < (valOf d : Int) ∨ (valOf d : Int) = no then none else some (valOf d, i + d.length)
def octP (S : ByteArray) (i : Nat) (a : Nat) : Option (Nat × Nat) := (numP S i 0 255 (-1)).map fun p => (a * 256 + p.1, p.2)
def patP (S : ByteArray) (i : Nat) : Option (Pat × Nat) := do
  let no := chr S i == 33
  let i := if no then i + 1 else i
  let (a, i) ← octP S i 0
  let i ← signP S i 46
  let (a, i) ← octP S i a
  let i ← signP S i 46
  let (a, i) ← octP S i a
  let i ← signP S i 46
  let (a, i) ← octP S i a
  let i ← signP S i 47
  let (b, i) ← numP S i 0 32 (if a = 0 ∧ no = false then 0 else -1)
  if endsP S i then some (⟨a, b, no⟩, i) else none
def portsP (S : ByteArray) (i : Nat) : Option (Rng × Nat) := do
  let i ← signP S i 32
  let (l, i) ← numP S i 0 65535 (-1)
  let i ← signP S i 58
  let (h, i) ← numP S i l 65535 (if l = 0 then 65535 else -1)
  if endsP S i then some (⟨l, h⟩, i) else none
/-- Does another word follow? -/
def moreP (S : ByteArray) (i : Nat) : Option (Bool × Nat) := if S.size ≤ i then some (false, i) else (signP S i 32).map fun j => (true, j)
def wPort : ByteArray := ⟨#[112, 111, 114, 116]⟩
def sideP (S : ByteArray) (i : Nat) (next : List ByteArray) : Option (Pat × Rng × Int × Nat) := do
  let i ← signP S i 32
  let tail : Pat → Nat → Option (Pat × Rng × Int × Nat) := fun a i => do
    let (r, i) ← portsP S i
    let (m, i) ← moreP S i
    if m then
      let (k, i) ← chooseP S i next
      some (a, r, (k : Int), i)
    else some (a, r, -1, i)
  if chr S i = 33 ∨ isDig (chr S i) = true then
    let (a, i) ← patP S i
    let (m, i) ← moreP S i
    if m then
      let (k, i) ← chooseP S i (wPort :: next)
      if 0 < k then some (a, ⟨0, 65535⟩, (k : Int) - 1, i) else tail a i
    else some (a, ⟨0, 65535⟩, -1, i)
  else
    let (_, i) ← chooseP S i [wPort]
    tail ⟨0, 0, false⟩ i
def countP (S : ByteArray) (i : Nat) : Option (Nat × Nat) := do
  let i ← signP S i 32
  let (n, i) ← numP S i 0 255 (-1)
  if endsP S i then some (n, i) else none
def ruleWords : List ByteArray := [⟨#[113, 117, 105, 99, 107]⟩, ⟨#[105, 110]⟩, ⟨#[111, 117, 116]⟩, ⟨#[111, 110]⟩, ⟨#[112, 114, 111, 116, 111]⟩, ⟨#[102, 114, 111, 109]⟩, ⟨#[116, 111]⟩, ⟨#[107, 101, 101, 112]⟩]
/-- What belongs to word k; the next word's number, or -1. -/
def partP (S : ByteArray) (i : Nat) (r : Rul) (k : Nat) : Option (Rul × Int × Nat) :=
  match k with
  | 0 => some ({ r with quick := true }, -1, i)
  | 1 => some ({ r with dir := 1 }, -1, i)
  | 2 => some ({ r with dir := 2 }, -1, i)
  | 3 => (countP S i).map fun p => ({ r with ifc := (p.1 : Int) }, -1, p.2)
  | 4 => (countP S i).map fun p => ({ r with proto := (p.1 : Int) }, -1, p.2)
  | 5 => (sideP S i (ruleWords.drop 6)).map fun p => ({ r with src := p.1, fr := p.2.1 }, if 0 ≤ p.2.2.1 then 6 + p.2.2.1 else -1, p.2.2.2)
  | 6 => (sideP S i (ruleWords.drop 7)).map fun p => ({ r with dst := p.1, to := p.2.1 }, if 0 ≤ p.2.2.1 then 7 + p.2.2.1 else -1, p.2.2.2)
  | _ => some ({ r with keep := true }, -1, i)
/-- The words' parts, as long as one names the next; 'first' behind them. -/
def partsP (S : ByteArray) : Nat → Nat → Rul → Nat → Option (Rul × Nat × Nat)
  | 0, _, _, _ => none
  | n + 1, i, r, k => do
    let (r, nx, i) ← partP S i r k
    if 0 ≤ nx then partsP S n i r nx.toNat else some (r, (if k = 1 then 3 else k + 1), i)
def wordsP (S : ByteArray) : Nat → Nat → Rul → Nat → Option (Rul × Nat)
  | 0, _, _, _ => none
  | n + 1, i, r, first => do
    let (m, i) ← moreP S i
    if m then
      let (k, i) ← chooseP S i (ruleWords.drop first)
      let (r, first, i) ← partsP S 8 i r (first + k)
      if 8 ≤ first then some (r, i) else wordsP S n i r first
    else some (r, i)
def anyRul (act : Int) : Rul := ⟨act, false, false, 3, -1, -1, ⟨0, 0, false⟩, ⟨0, 0, false⟩, ⟨0, 65535⟩, ⟨0, 65535⟩⟩
def ruleP (S : ByteArray) : Option Rul := do
  let (k, i) ← chooseP S 0 [⟨#[112, 97, 115, 115]⟩, ⟨#[98, 108, 111, 99, 107]⟩]
  let (r, i) ← wordsP S 9 i (anyRul (1 + (k : Int))) 0
  if S.size ≤ i then some r else none
def parseP (S : ByteArray) : Option Rul := do
  let r ← ruleP S
  if r.check = 0 then some r else none
def exText : ByteArray := ⟨#[98, 108, 111, 99, 107, 32, 105, 110, 32, 112, 114, 111, 116, 111, 32, 54, 32, 102, 114, 111, 109, 32, 49, 48, 46, 48, 46, 48, 46, 48, 47, 56, 32, 112, 111, 114, 116, 32, 48, 58, 49, 48, 50, 51]⟩
def exRul : Rul := ⟨2, false, false, 1, -1, 6, ⟨167772160, 8, false⟩, ⟨0, 0, false⟩, ⟨0, 1023⟩, ⟨0, 65535⟩⟩
theorem ex_parse : parseP exText = some exRul := by rfl
end Go.Proofs.Ytmmbepdghpjgeaa.Den
