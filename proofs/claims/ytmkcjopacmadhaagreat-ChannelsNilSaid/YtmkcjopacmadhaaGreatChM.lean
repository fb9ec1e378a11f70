/- Channels: the table as plain data. Conditions: none. -/
import Derived.Test.YtmkcjopacmadhaaGreatOb
set_option linter.unusedVariables false
set_option linter.unusedSimpArgs false
namespace Go.Proofs.YtmkcjopacmadhaaGreat.Den
open Go Go.RowKit
/-- An entry; a receiver; a channel; a connection; a message; a place; what is received. -/
structure Ent where
  pri : Int
  com : Int
  th : Int
  pr : Int
  sid : Int
  cn : Option Nat
  dh : Sh
  data : List Int
  room : Int
  code : Int
  val : Int
  cnt : Int
structure Rcv where
  pri : Int
  com : Int
  th : Int
  room : Int
structure Chn where
  id : Int
  pr : Int
  unb : Bool
  ents : List Ent
  recs : List Rcv
  sids : Int → Option Nat
  eh : Sh
  rh : Sh
  sb : Nat
structure Cnn where
  ch : Option Nat
  sid : Int
structure Msg where
  id : Int
  cl : Int
  ho : Int
  pri : Int
  ch : Nat
  dh : Sh
  data : List Int
  ah : Sh
  area : List Int
  len : Int
  pul : Bool
structure Plc where
  st : Int
  ch : Option Nat
  ms : Option Nat
structure Mg where
  id : Int
  th : Int
  pid : Int
  conn : Int
  pri : Int
  code : Int
  val : Int
  dh : Sh
  data : List Int
  len : Int
  cnt : Int
structure Wk where
  th : Int
  code : Int
  val : Int
structure TB where
  b1 : Nat
  b2 : Nat
  b3 : Nat
  b4 : Nat
  b5 : Nat
structure Tbl where
  bs : TB
  mh : Sh
  chm : Int → Option Nat
  cnm : Int × Int → Option Nat
  blk : Int → Option Plc
  ml : List Nat
  tak : Int → Option (Nat × Mg)
  ans : Int → Option (Sh × List Int)
  last : Int
  com : Int
  chs : List (Nat × Chn)
  cns : List (Nat × Cnn)
  mss : List (Nat × Msg)
/-- What an object with a name is, and another in its place. -/
def oget {α : Type} (r : Nat) : List (Nat × α) → Option α
  | [] => none
  | a :: l => if a.1 = r then some a.2 else oget r l
def oset {α : Type} (r : Nat) (x : α) : List (Nat × α) → List (Nat × α)
  | [] => []
  | a :: l => if a.1 = r then (r, x) :: l else a :: oset r x l
def updF {κ ν : Type} [DecidableEq κ] (f : κ → Option ν) (k : κ) (v : Option ν) : κ → Option ν := fun x => if x = k then v else f x
section
variable {α : Type} {r r' : Nat} {x y : α} {l l' : List (Nat × α)}
theorem oget_set : oget r (oset r x l) = (oget r l).map fun _ => x := by
  induction l with
  | nil => rfl
  | cons a l ih =>
    unfold oset; split
    · rename_i h; simp [oget, h]
    · rename_i h; simp [oget, h, ih]
theorem oget_set_ne (h : r' ≠ r) : oget r' (oset r x l) = oget r' l := by
  induction l with
  | nil => rfl
  | cons a l ih =>
    unfold oset; split
    · rename_i h1; simp [oget, h1, Ne.symm h]
    · rename_i h1; simp [oget, ih]
theorem oget_app : oget r (l ++ l') = (oget r l).or (oget r l') := by
  induction l with
  | nil => rfl
  | cons a l ih =>
    rw [List.cons_append, oget, oget, ih]
    split <;> simp
theorem oget_mem (h : oget r l = some x) : (r, x) ∈ l := by
  induction l with
  | nil => cases h
  | cons a l ih =>
    unfold oget at h; split at h
    · rename_i h1; injection h with h; subst h; subst h1; simp
    · exact List.mem_cons_of_mem _ (ih h)
theorem oget_none : oget r l = none ↔ r ∉ l.map Prod.fst := by
  induction l with
  | nil => simp [oget]
  | cons a l ih =>
    unfold oget; split
    · rename_i h; simp [h]
    · rename_i h; rw [ih]; simp [Ne.symm h]
theorem oset_keys : (oset r x l).map Prod.fst = l.map Prod.fst := by
  induction l with
  | nil => rfl
  | cons a l ih =>
    unfold oset; split
    · rename_i h; simp [h]
    · simp [ih]
end
section
variable {κ ν : Type} [DecidableEq κ] {f : κ → Option ν} {k k' : κ} {v : Option ν}
theorem updF_eq : updF f k v k = v := by simp [updF]
theorem updF_ne (h : k' ≠ k) : updF f k v k' = f k' := by simp [updF, h]
end
/-- The order of waiting. -/
def bfr (p c q d : Int) : Bool := decide (q < p) || (decide (p = q) && decide (c < d))
def insE (x : Ent) : List Ent → List Ent
  | [] => [x]
  | y :: l => if bfr y.pri y.com x.pri x.com then y :: insE x l else x :: y :: l
def insR (x : Rcv) : List Rcv → List Rcv
  | [] => [x]
  | y :: l => if bfr y.pri y.com x.pri x.com then y :: insR x l else x :: y :: l
abbrev proc (n : Int) : Prop := 0 ≤ n ∧ n ≤ 63
abbrev thr (n : Int) : Prop := 0 ≤ n ∧ n ≤ 255
abbrev prio (n : Int) : Prop := 0 ≤ n ∧ n ≤ 255
abbrev rooms (n : Int) : Prop := 0 ≤ n ∧ n ≤ 4096
def Tbl.state (T : Tbl) (th : Int) : Int := match T.blk th with
  | some p => p.st
  | none => 1
def shN : Sh := ⟨none, 0, 0⟩
def Tbl.new (B : TB) : Tbl := ⟨B, shN, fun _ => none, fun _ => none, fun _ => none, [], fun _ => none, fun _ => none, 0, 0, [], [], []⟩
def Mg.none : Mg := ⟨0, 0, 0, 0, 0, 0, 0, shN, [], 0, 0⟩
/-- Names and headers that a call makes. -/
structure Nm where
  r : Nat
  r2 : Nat
  dh : Sh
  ah : Sh
  ch : Sh
  eh : Sh
  rh : Sh
  mh : Sh
def Nm.zero : Nm := ⟨0, 0, shN, shN, shN, shN, shN, shN⟩
def Tbl.setCh (T : Tbl) (c : Nat) (x : Chn) : Tbl := { T with chs := oset c x T.chs }
def Tbl.come (T : Tbl) : Tbl := { T with com := T.com + 1 }
def Tbl.setBlk (T : Tbl) (th : Int) (p : Option Plc) : Tbl := { T with blk := updF T.blk th p }
def Tbl.setTak (T : Tbl) (th : Int) (p : Option (Nat × Mg)) : Tbl := { T with tak := updF T.tak th p }
def Tbl.setAns (T : Tbl) (th : Int) (p : Option (Sh × List Int)) : Tbl := { T with ans := updF T.ans th p }
def Ent.msg (e : Ent) (T : Tbl) (c : Nat) (th : Int) (ah : Sh) : Msg := ⟨T.last + 1, e.th, th, e.pri, c, e.dh, e.data, ah, List.replicate e.room.toNat 0, 0, false⟩
def Tbl.addMs (T : Tbl) (r : Nat) (m : Msg) (mh : Sh) : Tbl := { T with last := T.last + 1, ml := T.ml ++ [r], mh := mh, mss := T.mss ++ [(r, m)] }
/-- A thread takes an entry. -/
def Tbl.take (T : Tbl) (c : Nat) (e : Ent) (th room : Int) (nm : Nm) : Tbl × Mg :=
  if e.th = -1 then (T, ⟨0, -1, e.pr, e.sid, e.pri, e.code, e.val, shN, [], 0, e.cnt⟩)
  else ((T.addMs nm.r (e.msg T c th nm.ah) nm.mh).setBlk e.th (some ⟨4, some c, some nm.r⟩),
    ⟨T.last + 1, e.th, e.pr, e.sid, e.pri, 0, 0, nm.ch, e.data.take room.toNat, (e.data.length : Int), 1⟩)
/-- The first receiver gets an entry. -/
def Tbl.hand (T : Tbl) (c : Nat) (ch : Chn) (e : Ent) (r : Rcv) (rs : List Rcv) (nm : Nm) : Tbl × List Wk :=
  let X := (T.setCh c { ch with recs := rs, rh := nm.rh }).take c e r.th r.room nm
  ((X.1.setTak r.th (some (nm.r2, X.2))).setBlk r.th none, [⟨r.th, 0, X.2.id⟩])
def Tbl.queue (T : Tbl) (c : Nat) (ch : Chn) (e : Ent) (nm : Nm) : Tbl := T.setCh c { ch with ents := insE e ch.ents, eh := nm.eh }
abbrev sendOk (th p pri room : Int) : Prop := thr th ∧ proc p ∧ prio pri ∧ rooms room
/-- The channel to which a connection leads. -/
def Tbl.lead (T : Tbl) (p cn : Int) : Int ⊕ (Nat × Cnn × Nat × Chn) := match T.cnm (p, cn) with
  | none => .inl 3
  | some x => match oget x T.cns with
    | none => .inl 3
    | some cx => match cx.ch with
      | none => .inl 4
      | some c => match oget c T.chs with
        | none => .inl 4
        | some ch => .inr (x, cx, c, ch)
def Tbl.send (T : Tbl) (th p cn pri room : Int) (data : List Int) (nm : Nm) : Tbl × List Wk × Int :=
  if ¬ sendOk th p pri room then (T, [], 34)
  else if 4096 < data.length then (T, [], 20)
  else if T.state th ≠ 1 then (T, [], 35)
  else match T.lead p cn with
    | .inl e => (T, [], e)
    | .inr (x, cx, c, ch) =>
      let T1 := (T.setAns th none).come
      let e : Ent := ⟨pri, T.com + 1, th, p, cx.sid, some x, nm.dh, data, room, 0, 0, 0⟩
      match ch.recs with
      | r :: rs => let X := T1.hand c ch e r rs nm; (X.1, X.2, 0)
      | [] => ((T1.queue c ch e nm).setBlk th (some ⟨2, some c, none⟩), [], 0)
def Tbl.owned (T : Tbl) (p id : Int) : Option Nat × Int := match T.chm id with
  | none => (none, 3)
  | some r => match oget r T.chs with
    | none => (none, 3)
    | some c => if c.pr = p then (some r, 0) else (none, 32)
def Tbl.receive (T : Tbl) (th p id pri room : Int) (nm : Nm) : Tbl × Mg × Bool × Int :=
  if ¬ sendOk th p pri room then (T, Mg.none, false, 34)
  else if T.state th ≠ 1 then (T, Mg.none, false, 35)
  else match T.owned p id with
    | (none, e) => (T, Mg.none, false, e)
    | (some c, _) => match oget c T.chs with
      | none => (T, Mg.none, false, 3)
      | some ch => match ch.ents with
        | e :: es => let X := (T.setCh c { ch with ents := es, eh := nm.eh }).take c e th room nm; (X.1, X.2, false, 0)
        | [] => ((((T.setTak th none).come).setCh c { ch with recs := insR ⟨pri, T.com + 1, th, room⟩ ch.recs, rh := nm.rh }).setBlk th (some ⟨3, some c, none⟩), Mg.none, true, 0)
/-- What holds of every table. -/
structure Tbl.Ok (T : Tbl) (n : Nat) : Prop where
  nn : 0 ≤ T.com ∧ T.com ≤ n ∧ 0 ≤ T.last ∧ T.last ≤ n
  ch : ∀ id r, T.chm id = some r → ∃ c, oget r T.chs = some c
  cn : ∀ k x, T.cnm k = some x → ∃ cx, oget x T.cns = some cx
  cc : ∀ x cx c, oget x T.cns = some cx → cx.ch = some c → ∃ ch, oget c T.chs = some ch
  so : ∀ c ch, oget c T.chs = some ch → (ch.ents.Pairwise fun a b => bfr a.pri a.com b.pri b.com = true) ∧ ch.recs.Pairwise fun a b => bfr a.pri a.com b.pri b.com = true
  en : ∀ c ch, oget c T.chs = some ch → ∀ e ∈ ch.ents, 0 ≤ e.room ∧ e.room ≤ 4096 ∧ e.data.length ≤ 4096 ∧ e.com ≤ T.com ∧ 0 ≤ e.cnt ∧ e.cnt ≤ T.com
  rc : ∀ c ch, oget c T.chs = some ch → ∀ r ∈ ch.recs, 0 ≤ r.room ∧ r.room ≤ 4096 ∧ r.com ≤ T.com
  ms : ∀ r ∈ T.ml, ∃ m, oget r T.mss = some m ∧ ∃ ch, oget m.ch T.chs = some ch
  mi : T.ml.Pairwise fun a b => ∀ x y, oget a T.mss = some x → oget b T.mss = some y → x.id < y.id
  ml : ∀ r m, oget r T.mss = some m → m.id ≤ T.last
  mw : ∀ r m, oget r T.mss = some m → 0 ≤ m.len ∧ m.len ≤ m.area.length ∧ m.area.length ≤ 4096 ∧ m.data.length ≤ 4096
  ln : (T.ml.length : Int) ≤ T.last
  le : ∀ c ch, oget c T.chs = some ch → (ch.ents.length : Int) ≤ T.com ∧ (ch.recs.length : Int) ≤ T.com
end Go.Proofs.YtmkcjopacmadhaaGreat.Den
