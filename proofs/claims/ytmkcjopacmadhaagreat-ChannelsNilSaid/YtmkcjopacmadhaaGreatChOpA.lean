/- Channels: a call as data, a result as data. Conditions: none. -/
import Derived.Test.YtmkcjopacmadhaaGreatChT
set_option linter.unusedVariables false
set_option linter.unusedSimpArgs false
set_option maxRecDepth 8000
namespace Go.Proofs.YtmkcjopacmadhaaGreat.Den
open Go Go.RowKit
structure OpA where
  kind : Int
  thread : Int
  process : Int
  id : Int
  pri : Int
  n : Int
  value : Int
  dh : Sh
  data : List Int
  flag : Bool
def OpA.cells (o : OpA) : List Value := [I o.kind, I o.thread, I o.process, I o.id, I o.pri, I o.n, I o.value, o.dh.val, .bool o.flag]
def cOp : Cod OpA := ⟨9, OpA.cells, fun _ => rfl, by intro a c hc; simp [OpA.cells] at hc; rcases hc with rfl | rfl | rfl | rfl | rfl | rfl | rfl | rfl | rfl <;> rfl⟩
structure Res where
  n : Int
  wh : Sh
  wakes : List Wk
  m : Mg
  dh : Sh
  data : List Int
  bl : Bool
  e : Int
def Res.cells (r : Res) : List Value := [I r.n, r.wh.val, I r.m.id, I r.m.th, I r.m.pid, I r.m.conn, I r.m.pri, I r.m.code, I r.m.val, r.m.dh.val, I r.m.len, I r.m.cnt, r.dh.val, .bool r.bl, I r.e]
def Res.none : Res := ⟨0, shN, [], Mg.none, shN, [], false, 0⟩
structure ResAt (w0 : World) (D : List Chunk) (r : Res) : Prop where
  wk : TR cWk w0 D r.wh.val r.wakes
  mg : TR cB w0 D r.m.dh.val r.m.data
  dt : TR cB w0 D r.dh.val r.data
theorem ResAt.mono {w0 : World} {D D' : List Chunk} {r : Res} (h : ResAt w0 D r) (hs : ∀ c ∈ D, c ∈ D') : ResAt w0 D' r := ⟨h.wk.mono hs, h.mg.mono hs, h.dt.mono hs⟩
def Mg.eqv (a b : Mg) : Bool := decide (a.id = b.id) && (decide (a.th = b.th) && (decide (a.pid = b.pid) && (decide (a.conn = b.conn) && (decide (a.pri = b.pri) && (decide (a.code = b.code) && (decide (a.val = b.val) && (decide (a.data = b.data) && (decide (a.len = b.len) && decide (a.cnt = b.cnt)))))))))
def wkv (w : Wk) : Int × Int × Int := (w.th, w.code, w.val)
def Res.eqv (a b : Res) : Bool := decide (a.n = b.n) && (decide (a.wakes.map wkv = b.wakes.map wkv) && (a.m.eqv b.m && (decide (a.data = b.data) && (decide (a.bl = b.bl) && decide (a.e = b.e)))))
end Go.Proofs.YtmkcjopacmadhaaGreat.Den
