/- Channels: the table in memory. Conditions: none. -/
import Derived.Test.YtmkcjopacmadhaaGreatChH
import Derived.Test.YtmkcjopacmadhaaGreatOck
set_option linter.unusedVariables false
set_option linter.unusedSimpArgs false
set_option maxRecDepth 8000
namespace Go.Proofs.YtmkcjopacmadhaaGreat.Den
open Go Go.RowKit
abbrev pO (r : Option Nat) : Value := .pointer (r.map fun b => (⟨b, 0, none⟩ : Addr))
/-! ### codes -/
def cB : Cod Int := ⟨1, fun n => [U8 n], fun _ => rfl, by intro a c hc; simp at hc; subst hc; rfl⟩
def cZ : Cod Int := ⟨1, fun n => [I n], fun _ => rfl, by intro a c hc; simp at hc; subst hc; rfl⟩
def cP : Cod Nat := ⟨1, fun r => [ptr r 0], fun _ => rfl, by intro a c hc; simp at hc; subst hc; rfl⟩
def Ent.cells (e : Ent) : List Value := [I e.pri, I e.com, I e.th, I e.pr, I e.sid, pO e.cn, e.dh.val, I e.room, I e.code, I e.val, I e.cnt]
def cEn : Cod Ent := ⟨11, Ent.cells, fun _ => rfl, by intro a c hc; simp [Ent.cells] at hc; rcases hc with rfl | rfl | rfl | rfl | rfl | rfl | rfl | rfl | rfl | rfl | rfl <;> rfl⟩
def Rcv.cells (e : Rcv) : List Value := [I e.pri, I e.com, I e.th, I e.room]
def cRc : Cod Rcv := ⟨4, Rcv.cells, fun _ => rfl, by intro a c hc; simp [Rcv.cells] at hc; rcases hc with rfl | rfl | rfl | rfl <;> rfl⟩
def Wk.cells (e : Wk) : List Value := [I e.th, I e.code, I e.val]
def cWk : Cod Wk := ⟨3, Wk.cells, fun _ => rfl, by intro a c hc; simp [Wk.cells] at hc; rcases hc with rfl | rfl | rfl <;> rfl⟩
def Mg.cells (m : Mg) : List Value := [I m.id, I m.th, I m.pid, I m.conn, I m.pri, I m.code, I m.val, m.dh.val, I m.len, I m.cnt]
def Msg.cells (m : Msg) : List Value := [I m.id, I m.cl, I m.ho, I m.pri, ptr m.ch 0, m.dh.val, m.ah.val, I m.len, .bool m.pul]
def Plc.cells (p : Plc) : List Value := [I p.st, pO p.ch, pO p.ms]
/-! ### the maps -/
def kI (n : Int) : Value := I n
def kK (k : Int × Int) : Value := .agg ⟨[I k.1, I k.2]⟩
def vP (p : Plc) : Value := .agg ⟨p.cells⟩
def vO (r : Option Nat) : Value := pO r
/-- .. of the run. -/
structure Maps : Prop where
  ch : MapK 81 3 76 (.int .i64) kI vO none
  cn : MapK 82 136 108 (.struct (Pg.fieldsOf 136)) kK vO none
  pl : MapK 83 3 79 (.int .i64) kI vP ⟨0, none, none⟩
  tk : MapK 85 3 98 (.int .i64) kI vO none
  an : MapK 86 3 30 (.int .i64) kI Sh.val ⟨none, 0, 0⟩
  sd : MapK 101 3 108 (.int .i64) kI vO none
def obj {κ : Type} (f : κ → Option Nat) : κ → Option (Option Nat) := fun k => (f k).map some
/-! ### objects -/
def Chn.cells (c : Chn) : List Value := [I c.id, I c.pr, .bool c.unb, c.eh.val, c.rh.val, .map (some c.sb)]
def Cnn.cells (c : Cnn) : List Value := [pO c.ch, I c.sid]
def Tbl.cells (T : Tbl) : List Value := [.map (some T.bs.b1), .map (some T.bs.b2), .map (some T.bs.b3), T.mh.val, .map (some T.bs.b4), .map (some T.bs.b5), I T.last, I T.com]
def ChnAt (k b : Nat) (c : Chn) (cs : List Chunk) : Prop :=
  ∃ ce cr cm, cs = ⟨b, .t 103, c.cells⟩ :: cm :: (ce ++ cr) ∧ TS cEn 110 c.eh.val c.ents ce ∧ TS cRc 107 c.rh.val c.recs cr ∧ MapAt kI vO c.sb (obj c.sids) k cm
theorem ChnAt.mono {k k' b : Nat} {c : Chn} {cs : List Chunk} (h : ChnAt k b c cs) (hk : k ≤ k') : ChnAt k' b c cs := by
  obtain ⟨ce, cr, cm, h1, h2, h3, h4⟩ := h
  exact ⟨ce, cr, cm, h1, h2, h3, h4.mono hk⟩
def CnnAt (b : Nat) (c : Cnn) (cs : List Chunk) : Prop := cs = [⟨b, .t 139, c.cells⟩]
def MsgAt (b : Nat) (m : Msg) (cs : List Chunk) : Prop := ∃ ca, cs = ⟨b, .t 112, m.cells⟩ :: ca ∧ TS cB 5 m.ah.val m.area ca
/-- The table's own memory; what of it is never written again is kept apart. -/
def TblEx (tb : Nat) (T : Tbl) (n : Nat) (A : List Chunk) : Prop :=
  ∃ c1 c2 c3 c4 c5 cm X1 X2 X3, A = ⟨tb, .t 88, T.cells⟩ :: c1 :: c2 :: c3 :: c4 :: c5 :: (cm ++ (X1 ++ (X2 ++ X3))) ∧
    MapAt kI vO T.bs.b1 (obj T.chm) n c1 ∧ MapAt kK vO T.bs.b2 (obj T.cnm) n c2 ∧ MapAt kI vP T.bs.b3 T.blk n c3 ∧ MapAt kI vO T.bs.b4 (fun th => (T.tak th).map fun p => some p.1) n c4 ∧ MapAt kI Sh.val T.bs.b5 (fun th => (T.ans th).map (·.1)) n c5 ∧
    TS cP 77 T.mh.val T.ml cm ∧ Objs (ChnAt n) T.chs X1 ∧ Objs CnnAt T.cns X2 ∧ Objs MsgAt T.mss X3
/-- The same chunks in another order. -/
def Eqv (L L' : List Chunk) : Prop := ∀ f : Chunk → Nat, (L.map f).sum = (L'.map f).sum
section
variable {L L' L2 A B F : List Chunk} {w w0 : World} {c : Chunk}
theorem Eqv.refl : Eqv L L := fun _ => rfl
theorem Eqv.symm (h : Eqv L L') : Eqv L' L := fun f => (h f).symm
theorem Eqv.trans (h : Eqv L L') (h' : Eqv L' L2) : Eqv L L2 := fun f => (h f).trans (h' f)
theorem Eqv.mem (h : Eqv L L') : c ∈ L ↔ c ∈ L' := ⟨mem_of_sum fun f => Nat.le_of_eq (h f), mem_of_sum fun f => Nat.le_of_eq (h f).symm⟩
theorem Hp.eqv (H : Hp w0 w (A ++ F)) (h : Eqv A B) : Hp w0 w (B ++ F) := H.to fun f => by have := h f; simp only [List.map_append, List.sum_append]; omega
theorem eqv (h : ∀ f : Chunk → Nat, (L.map f).sum = (L'.map f).sum := by intro f; simp only [tag_lit, I, U8, U64, ptr, List.map_append, List.map_cons, List.map_nil, List.sum_append, List.sum_cons, List.sum_nil]; omega) : Eqv L L' := h
theorem Hp.tre {L L' : List Chunk} (H : Hp w0 w L) (h : ∀ f : Chunk → Nat, (L'.map f).sum ≤ (L.map f).sum := by intro f; (try simp only [List.append_eq, Tbl.setAns, Tbl.setBlk, Tbl.setTak, Tbl.come, Tbl.setCh, Tbl.addMs, Tbl.cells, Chn.cells, Cnn.cells, Msg.cells, Ent.cells, Rcv.cells, Wk.cells, Mg.cells, Plc.cells, pO, Option.map_some, Option.map_none, tag_lit, I, U8, U64, ptr, List.set_cons_zero, List.set_cons_succ, List.eraseIdx_cons_zero, List.eraseIdx_cons_succ, List.map_append, List.map_cons, List.map_nil, List.sum_append, List.sum_cons, List.sum_nil]); omega) : Hp w0 w L' := H.to h
theorem Eqv.app (h : Eqv A B) : Eqv (A ++ F) (B ++ F) := fun f => by have := h f; simp only [List.map_append, List.sum_append]; omega
end
def TblAt (tb : Nat) (T : Tbl) (n : Nat) (A : List Chunk) : Prop := ∃ A0, TblEx tb T n A0 ∧ Eqv A0 A
section
variable {L L' A A' B F cs : List Chunk} {w w0 : World} {tb n n' r : Nat} {T : Tbl} {ch : Chn} {cx : Cnn} {m : Msg}
theorem TblAt.eqv (h : TblAt tb T n A) (e : Eqv A B) : TblAt tb T n B := by obtain ⟨A0, h1, h2⟩ := h; exact ⟨A0, h1, h2.trans e⟩
theorem TblAt.mono (h : TblAt tb T n A) (hn : n ≤ n') : TblAt tb T n' A := by
  obtain ⟨A0, ⟨c1, c2, c3, c4, c5, cm, X1, X2, X3, h0, h1, h2, h3, h4, h5, h6, h7, h8, h9⟩, h10⟩ := h
  exact ⟨A0, ⟨c1, c2, c3, c4, c5, cm, X1, X2, X3, h0, h1.mono hn, h2.mono hn, h3.mono hn, h4.mono hn, h5.mono hn, h6, h7.mono fun r x c _ h => h.mono hn, h8, h9⟩, h10⟩
theorem TblAt.tbl (h : TblAt tb T n A) : (⟨tb, .t 88, T.cells⟩ : Chunk) ∈ A := by
  obtain ⟨A0, ⟨c1, c2, c3, c4, c5, cm, X1, X2, X3, rfl, _⟩, e⟩ := h
  exact e.mem.1 (by simp)
/-- One of the maps, and another in its place. -/
theorem TblAt.map1 (h : TblAt tb T n A) : ∃ c A', MapAt kI vO T.bs.b1 (obj T.chm) n c ∧ Eqv A (c :: A') ∧ ∀ (g : Int → Option Nat) (n' : Nat) c', n ≤ n' → MapAt kI vO T.bs.b1 (obj g) n' c' → TblAt tb { T with chm := g } n' (c' :: A') := by
  obtain ⟨A0, ⟨c1, c2, c3, c4, c5, cm, X1, X2, X3, rfl, h1, h2, h3, h4, h5, h6, h7, h8, h9⟩, e⟩ := h
  refine ⟨c1, (⟨tb, .t 88, T.cells⟩ :: c1 :: c2 :: c3 :: c4 :: c5 :: (cm ++ (X1 ++ (X2 ++ X3)))).eraseIdx 1, h1, fun f => by have := e f; simp only [List.eraseIdx_cons_succ, List.eraseIdx_cons_zero, List.map_cons, List.sum_cons] at *; omega, fun g n' c' hn hg => ?_⟩
  have h1 := h1.mono hn
  have h2 := h2.mono hn
  have h3 := h3.mono hn
  have h4 := h4.mono hn
  have h5 := h5.mono hn
  have h7 := h7.mono (P' := ChnAt n') fun r x c _ h => h.mono hn
  have h1 := hg
  exact ⟨(⟨tb, .t 88, T.cells⟩ :: c1 :: c2 :: c3 :: c4 :: c5 :: (cm ++ (X1 ++ (X2 ++ X3)))).set 1 c', by
    simp only [List.set_cons_succ, List.set_cons_zero]
    exact ⟨_, _, _, _, _, cm, X1, X2, X3, rfl, h1, h2, h3, h4, h5, h6, h7, h8, h9⟩, fun f => by simp only [List.eraseIdx_cons_succ, List.eraseIdx_cons_zero, List.set_cons_succ, List.set_cons_zero, List.map_cons, List.sum_cons]; omega⟩
theorem TblAt.map2 (h : TblAt tb T n A) : ∃ c A', MapAt kK vO T.bs.b2 (obj T.cnm) n c ∧ Eqv A (c :: A') ∧ ∀ (g : Int × Int → Option Nat) (n' : Nat) c', n ≤ n' → MapAt kK vO T.bs.b2 (obj g) n' c' → TblAt tb { T with cnm := g } n' (c' :: A') := by
  obtain ⟨A0, ⟨c1, c2, c3, c4, c5, cm, X1, X2, X3, rfl, h1, h2, h3, h4, h5, h6, h7, h8, h9⟩, e⟩ := h
  refine ⟨c2, (⟨tb, .t 88, T.cells⟩ :: c1 :: c2 :: c3 :: c4 :: c5 :: (cm ++ (X1 ++ (X2 ++ X3)))).eraseIdx 2, h2, fun f => by have := e f; simp only [List.eraseIdx_cons_succ, List.eraseIdx_cons_zero, List.map_cons, List.sum_cons] at *; omega, fun g n' c' hn hg => ?_⟩
  have h1 := h1.mono hn
  have h2 := h2.mono hn
  have h3 := h3.mono hn
  have h4 := h4.mono hn
  have h5 := h5.mono hn
  have h7 := h7.mono (P' := ChnAt n') fun r x c _ h => h.mono hn
  have h2 := hg
  exact ⟨(⟨tb, .t 88, T.cells⟩ :: c1 :: c2 :: c3 :: c4 :: c5 :: (cm ++ (X1 ++ (X2 ++ X3)))).set 2 c', by
    simp only [List.set_cons_succ, List.set_cons_zero]
    exact ⟨_, _, _, _, _, cm, X1, X2, X3, rfl, h1, h2, h3, h4, h5, h6, h7, h8, h9⟩, fun f => by simp only [List.eraseIdx_cons_succ, List.eraseIdx_cons_zero, List.set_cons_succ, List.set_cons_zero, List.map_cons, List.sum_cons]; omega⟩
theorem TblAt.map3 (h : TblAt tb T n A) : ∃ c A', MapAt kI vP T.bs.b3 T.blk n c ∧ Eqv A (c :: A') ∧ ∀ (g : Int → Option Plc) (n' : Nat) c', n ≤ n' → MapAt kI vP T.bs.b3 g n' c' → TblAt tb { T with blk := g } n' (c' :: A') := by
  obtain ⟨A0, ⟨c1, c2, c3, c4, c5, cm, X1, X2, X3, rfl, h1, h2, h3, h4, h5, h6, h7, h8, h9⟩, e⟩ := h
  refine ⟨c3, (⟨tb, .t 88, T.cells⟩ :: c1 :: c2 :: c3 :: c4 :: c5 :: (cm ++ (X1 ++ (X2 ++ X3)))).eraseIdx 3, h3, fun f => by have := e f; simp only [List.eraseIdx_cons_succ, List.eraseIdx_cons_zero, List.map_cons, List.sum_cons] at *; omega, fun g n' c' hn hg => ?_⟩
  have h1 := h1.mono hn
  have h2 := h2.mono hn
  have h3 := h3.mono hn
  have h4 := h4.mono hn
  have h5 := h5.mono hn
  have h7 := h7.mono (P' := ChnAt n') fun r x c _ h => h.mono hn
  have h3 := hg
  exact ⟨(⟨tb, .t 88, T.cells⟩ :: c1 :: c2 :: c3 :: c4 :: c5 :: (cm ++ (X1 ++ (X2 ++ X3)))).set 3 c', by
    simp only [List.set_cons_succ, List.set_cons_zero]
    exact ⟨_, _, _, _, _, cm, X1, X2, X3, rfl, h1, h2, h3, h4, h5, h6, h7, h8, h9⟩, fun f => by simp only [List.eraseIdx_cons_succ, List.eraseIdx_cons_zero, List.set_cons_succ, List.set_cons_zero, List.map_cons, List.sum_cons]; omega⟩
theorem TblAt.map4 (h : TblAt tb T n A) : ∃ c A', MapAt kI vO T.bs.b4 (fun th => (T.tak th).map fun p => some p.1) n c ∧ Eqv A (c :: A') ∧ ∀ (g : Int → Option (Nat × Mg)) (n' : Nat) c', n ≤ n' → MapAt kI vO T.bs.b4 (fun th => (g th).map fun p => some p.1) n' c' → TblAt tb { T with tak := g } n' (c' :: A') := by
  obtain ⟨A0, ⟨c1, c2, c3, c4, c5, cm, X1, X2, X3, rfl, h1, h2, h3, h4, h5, h6, h7, h8, h9⟩, e⟩ := h
  refine ⟨c4, (⟨tb, .t 88, T.cells⟩ :: c1 :: c2 :: c3 :: c4 :: c5 :: (cm ++ (X1 ++ (X2 ++ X3)))).eraseIdx 4, h4, fun f => by have := e f; simp only [List.eraseIdx_cons_succ, List.eraseIdx_cons_zero, List.map_cons, List.sum_cons] at *; omega, fun g n' c' hn hg => ?_⟩
  have h1 := h1.mono hn
  have h2 := h2.mono hn
  have h3 := h3.mono hn
  have h4 := h4.mono hn
  have h5 := h5.mono hn
  have h7 := h7.mono (P' := ChnAt n') fun r x c _ h => h.mono hn
  have h4 := hg
  exact ⟨(⟨tb, .t 88, T.cells⟩ :: c1 :: c2 :: c3 :: c4 :: c5 :: (cm ++ (X1 ++ (X2 ++ X3)))).set 4 c', by
    simp only [List.set_cons_succ, List.set_cons_zero]
    exact ⟨_, _, _, _, _, cm, X1, X2, X3, rfl, h1, h2, h3, h4, h5, h6, h7, h8, h9⟩, fun f => by simp only [List.eraseIdx_cons_succ, List.eraseIdx_cons_zero, List.set_cons_succ, List.set_cons_zero, List.map_cons, List.sum_cons]; omega⟩
theorem TblAt.map5 (h : TblAt tb T n A) : ∃ c A', MapAt kI Sh.val T.bs.b5 (fun th => (T.ans th).map (·.1)) n c ∧ Eqv A (c :: A') ∧ ∀ (g : Int → Option (Sh × List Int)) (n' : Nat) c', n ≤ n' → MapAt kI Sh.val T.bs.b5 (fun th => (g th).map (·.1)) n' c' → TblAt tb { T with ans := g } n' (c' :: A') := by
  obtain ⟨A0, ⟨c1, c2, c3, c4, c5, cm, X1, X2, X3, rfl, h1, h2, h3, h4, h5, h6, h7, h8, h9⟩, e⟩ := h
  refine ⟨c5, (⟨tb, .t 88, T.cells⟩ :: c1 :: c2 :: c3 :: c4 :: c5 :: (cm ++ (X1 ++ (X2 ++ X3)))).eraseIdx 5, h5, fun f => by have := e f; simp only [List.eraseIdx_cons_succ, List.eraseIdx_cons_zero, List.map_cons, List.sum_cons] at *; omega, fun g n' c' hn hg => ?_⟩
  have h1 := h1.mono hn
  have h2 := h2.mono hn
  have h3 := h3.mono hn
  have h4 := h4.mono hn
  have h5 := h5.mono hn
  have h7 := h7.mono (P' := ChnAt n') fun r x c _ h => h.mono hn
  have h5 := hg
  exact ⟨(⟨tb, .t 88, T.cells⟩ :: c1 :: c2 :: c3 :: c4 :: c5 :: (cm ++ (X1 ++ (X2 ++ X3)))).set 5 c', by
    simp only [List.set_cons_succ, List.set_cons_zero]
    exact ⟨_, _, _, _, _, cm, X1, X2, X3, rfl, h1, h2, h3, h4, h5, h6, h7, h8, h9⟩, fun f => by simp only [List.eraseIdx_cons_succ, List.eraseIdx_cons_zero, List.set_cons_succ, List.set_cons_zero, List.map_cons, List.sum_cons]; omega⟩
/-- A channel. -/
theorem TblAt.chn (h : TblAt tb T n A) (hc : oget r T.chs = some ch) : ∃ cm ce cr A', Eqv A (⟨r, .t 103, ch.cells⟩ :: cm :: (ce ++ (cr ++ A'))) ∧ TS cEn 110 ch.eh.val ch.ents ce ∧ TS cRc 107 ch.rh.val ch.recs cr ∧ MapAt kI vO ch.sb (obj ch.sids) n cm ∧
    ∀ ch' cm' ce' cr' n', n ≤ n' → TS cEn 110 ch'.eh.val ch'.ents ce' → TS cRc 107 ch'.rh.val ch'.recs cr' → MapAt kI vO ch'.sb (obj ch'.sids) n' cm' → TblAt tb (T.setCh r ch') n' (⟨r, .t 103, ch'.cells⟩ :: cm' :: (ce' ++ (cr' ++ A'))) := by
  obtain ⟨A0, ⟨c1, c2, c3, c4, c5, cm, X1, X2, X3, rfl, h1, h2, h3, h4, h5, h6, h7, h8, h9⟩, e⟩ := h
  obtain ⟨U, cc, V, rfl, ⟨ce, cr, cmm, rfl, t1, t2, t3⟩, hset, _⟩ := h7.focus hc
  refine ⟨cmm, ce, cr, ⟨tb, .t 88, T.cells⟩ :: c1 :: c2 :: c3 :: c4 :: c5 :: (cm ++ (U ++ (V ++ (X2 ++ X3)))), fun f => ?_, t1, t2, t3, fun ch' cm' ce' cr' n' hn s1 s2 s3 => ⟨_, ⟨c1, c2, c3, c4, c5, cm, _, X2, X3, rfl, h1.mono hn, h2.mono hn, h3.mono hn, h4.mono hn, h5.mono hn, h6, hset (ChnAt n') (fun r x c h => h.mono hn) ch' _ ⟨ce', cr', cm', rfl, s1, s2, s3⟩, h8, h9⟩, fun f => ?_⟩⟩
  · have := e f; simp only [List.map_append, List.map_cons, List.sum_append, List.sum_cons] at *; omega
  · simp only [List.map_append, List.map_cons, List.sum_append, List.sum_cons, Tbl.setCh, Tbl.cells]; omega
theorem TblAt.chnM (h : TblAt tb T n A) (hc : oget r T.chs = some ch) : (⟨r, .t 103, ch.cells⟩ : Chunk) ∈ A := by
  obtain ⟨_, _, _, _, e, _⟩ := h.chn hc; exact e.mem.2 (by simp)
/-- A connection. -/
theorem TblAt.cnn (h : TblAt tb T n A) (hc : oget r T.cns = some cx) : ∃ A', Eqv A (⟨r, .t 139, cx.cells⟩ :: A') ∧ ∀ cx', TblAt tb { T with cns := oset r cx' T.cns } n (⟨r, .t 139, cx'.cells⟩ :: A') := by
  obtain ⟨A0, ⟨c1, c2, c3, c4, c5, cm, X1, X2, X3, rfl, h1, h2, h3, h4, h5, h6, h7, h8, h9⟩, e⟩ := h
  obtain ⟨U, cc, V, rfl, rfl, hset, _⟩ := h8.focus hc
  refine ⟨⟨tb, .t 88, T.cells⟩ :: c1 :: c2 :: c3 :: c4 :: c5 :: (cm ++ (U ++ (V ++ (X1 ++ X3)))), fun f => ?_, fun cx' => ⟨_, ⟨c1, c2, c3, c4, c5, cm, X1, _, X3, rfl, h1, h2, h3, h4, h5, h6, h7, hset CnnAt (fun r x c h => h) cx' _ rfl, h9⟩, fun f => ?_⟩⟩
  · have := e f; simp only [List.map_append, List.map_cons, List.map_nil, List.sum_append, List.sum_cons, List.sum_nil] at *; omega
  · simp only [List.map_append, List.map_cons, List.map_nil, List.sum_append, List.sum_cons, List.sum_nil, Tbl.cells]; omega
theorem TblAt.cnnM (h : TblAt tb T n A) (hc : oget r T.cns = some cx) : (⟨r, .t 139, cx.cells⟩ : Chunk) ∈ A := by
  obtain ⟨_, e, _⟩ := h.cnn hc; exact e.mem.2 (by simp)
/-- A message. -/
theorem TblAt.msg (h : TblAt tb T n A) (hc : oget r T.mss = some m) : ∃ ca A', Eqv A (⟨r, .t 112, m.cells⟩ :: (ca ++ A')) ∧ TS cB 5 m.ah.val m.area ca ∧ (∀ m' ca', TS cB 5 m'.ah.val m'.area ca' → TblAt tb { T with mss := oset r m' T.mss } n (⟨r, .t 112, m'.cells⟩ :: (ca' ++ A'))) ∧
    TblAt tb { T with mss := odel r T.mss } n A' := by
  obtain ⟨A0, ⟨c1, c2, c3, c4, c5, cm, X1, X2, X3, rfl, h1, h2, h3, h4, h5, h6, h7, h8, h9⟩, e⟩ := h
  obtain ⟨U, cc, V, rfl, ⟨ca, rfl, t1⟩, hset, hdel⟩ := h9.focus hc
  refine ⟨ca, ⟨tb, .t 88, T.cells⟩ :: c1 :: c2 :: c3 :: c4 :: c5 :: (cm ++ (U ++ (V ++ (X1 ++ X2)))), fun f => ?_, t1, fun m' ca' s1 => ⟨_, ⟨c1, c2, c3, c4, c5, cm, X1, X2, _, rfl, h1, h2, h3, h4, h5, h6, h7, h8, hset MsgAt (fun r x c h => h) m' _ ⟨ca', rfl, s1⟩⟩, fun f => ?_⟩, ⟨_, ⟨c1, c2, c3, c4, c5, cm, X1, X2, _, rfl, h1, h2, h3, h4, h5, h6, h7, h8, hdel⟩, fun f => ?_⟩⟩
  · have := e f; simp only [List.map_append, List.map_cons, List.map_nil, List.sum_append, List.sum_cons, List.sum_nil] at *; omega
  · simp only [List.map_append, List.map_cons, List.map_nil, List.sum_append, List.sum_cons, List.sum_nil, Tbl.cells]; omega
  · simp only [List.map_append, List.map_cons, List.map_nil, List.sum_append, List.sum_cons, List.sum_nil, Tbl.cells]; omega
theorem TblAt.msgM (h : TblAt tb T n A) (hc : oget r T.mss = some m) : (⟨r, .t 112, m.cells⟩ : Chunk) ∈ A := by
  obtain ⟨_, _, e, _⟩ := h.msg hc; exact e.mem.2 (by simp)
theorem TblAt.noMsg (h : TblAt tb T n A) (hr : r ∉ A.map Chunk.b) : oget r T.mss = none := by
  cases h' : oget r T.mss with
  | none => rfl
  | some m => exact absurd (List.mem_map_of_mem (f := Chunk.b) (h.msgM h')) hr
theorem TblAt.noCnn (h : TblAt tb T n A) (hr : r ∉ A.map Chunk.b) : oget r T.cns = none := by
  cases h' : oget r T.cns with
  | none => rfl
  | some m => exact absurd (List.mem_map_of_mem (f := Chunk.b) (h.cnnM h')) hr
theorem TblAt.noChn (h : TblAt tb T n A) (hr : r ∉ A.map Chunk.b) : oget r T.chs = none := by
  cases h' : oget r T.chs with
  | none => rfl
  | some m => exact absurd (List.mem_map_of_mem (f := Chunk.b) (h.chnM h')) hr
/-- The list of messages, and the numbers. -/
theorem TblAt.topM (h : TblAt tb T n A) : ∃ cm A', Eqv A (⟨tb, .t 88, T.cells⟩ :: (cm ++ A')) ∧ TS cP 77 T.mh.val T.ml cm ∧ (∀ r m, oget r T.mss = some m → (⟨r, .t 112, m.cells⟩ : Chunk) ∈ A') ∧
    ∀ mh ml last com cm', TS cP 77 mh.val ml cm' → TblAt tb { T with mh := mh, ml := ml, last := last, com := com } n (⟨tb, .t 88, Tbl.cells { T with mh := mh, ml := ml, last := last, com := com }⟩ :: (cm' ++ A')) := by
  obtain ⟨A0, ⟨c1, c2, c3, c4, c5, cm, X1, X2, X3, rfl, h1, h2, h3, h4, h5, h6, h7, h8, h9⟩, e⟩ := h
  refine ⟨cm, c1 :: c2 :: c3 :: c4 :: c5 :: (X1 ++ (X2 ++ X3)), fun f => ?_, h6, fun r m hm => ?_, fun mh ml last com cm' s1 => ⟨_, ⟨c1, c2, c3, c4, c5, cm', X1, X2, X3, rfl, h1, h2, h3, h4, h5, s1, h7, h8, h9⟩, fun f => ?_⟩⟩
  · have := e f; simp only [List.map_append, List.map_cons, List.map_nil, List.sum_append, List.sum_cons, List.sum_nil] at *; omega
  · obtain ⟨U, cc, V, rfl, ⟨ca, rfl, _⟩, _, _⟩ := h9.focus hm
    simp
  · simp only [List.map_append, List.map_cons, List.map_nil, List.sum_append, List.sum_cons, List.sum_nil]; omega
theorem TblAt.top (h : TblAt tb T n A) : ∃ cm A', Eqv A (⟨tb, .t 88, T.cells⟩ :: (cm ++ A')) ∧ TS cP 77 T.mh.val T.ml cm ∧
    ∀ mh ml last com cm', TS cP 77 mh.val ml cm' → TblAt tb { T with mh := mh, ml := ml, last := last, com := com } n (⟨tb, .t 88, Tbl.cells { T with mh := mh, ml := ml, last := last, com := com }⟩ :: (cm' ++ A')) := by
  obtain ⟨cm, A', h1, h2, _, h3⟩ := h.topM
  exact ⟨cm, A', h1, h2, h3⟩
/-- What is new. -/
theorem TblAt.addChn (h : TblAt tb T n A) (hc : ChnAt n r ch cs) : TblAt tb { T with chs := T.chs ++ [(r, ch)] } n (cs ++ A) := by
  obtain ⟨A0, ⟨c1, c2, c3, c4, c5, cm, X1, X2, X3, rfl, h1, h2, h3, h4, h5, h6, h7, h8, h9⟩, e⟩ := h
  refine ⟨_, ⟨c1, c2, c3, c4, c5, cm, _, X2, X3, rfl, h1, h2, h3, h4, h5, h6, h7.app hc, h8, h9⟩, fun f => ?_⟩
  have := e f; simp only [List.map_append, List.map_cons, List.map_nil, List.sum_append, List.sum_cons, List.sum_nil, Tbl.cells] at *; omega
theorem TblAt.addCnn (h : TblAt tb T n A) (hc : CnnAt r cx cs) : TblAt tb { T with cns := T.cns ++ [(r, cx)] } n (cs ++ A) := by
  obtain ⟨A0, ⟨c1, c2, c3, c4, c5, cm, X1, X2, X3, rfl, h1, h2, h3, h4, h5, h6, h7, h8, h9⟩, e⟩ := h
  refine ⟨_, ⟨c1, c2, c3, c4, c5, cm, X1, _, X3, rfl, h1, h2, h3, h4, h5, h6, h7, h8.app hc, h9⟩, fun f => ?_⟩
  have := e f; simp only [List.map_append, List.map_cons, List.map_nil, List.sum_append, List.sum_cons, List.sum_nil, Tbl.cells] at *; omega
theorem TblAt.addMsg (h : TblAt tb T n A) (hc : MsgAt r m cs) : TblAt tb { T with mss := T.mss ++ [(r, m)] } n (cs ++ A) := by
  obtain ⟨A0, ⟨c1, c2, c3, c4, c5, cm, X1, X2, X3, rfl, h1, h2, h3, h4, h5, h6, h7, h8, h9⟩, e⟩ := h
  refine ⟨_, ⟨c1, c2, c3, c4, c5, cm, X1, X2, _, rfl, h1, h2, h3, h4, h5, h6, h7, h8, h9.app hc⟩, fun f => ?_⟩
  have := e f; simp only [List.map_append, List.map_cons, List.map_nil, List.sum_append, List.sum_cons, List.sum_nil, Tbl.cells] at *; omega
end
/-! ### steps -/
section
variable {L L' A A' B F : List Chunk} {w w0 : World} {tb n b o : Nat} {T : Tbl} {ch : Chn} {cx : Cnn} {m : Msg} {K : VK} {R : ER} {v : Value} {G : WP} {th p q id : Int}
theorem TblAt.tcell (hA : TblAt tb T n A) (H : Hp w0 w L) (hs : ∀ c ∈ A, c ∈ L) (hv : T.cells[o]? = some v) : w.cell? ⟨tb, o, none⟩ = some v := H.cellM (hs _ hA.tbl) hv
theorem ldT_a (k : K v w) (hA : TblAt b T n A := by assumption) (H : Hp w0 w L := by assumption) (hs : ∀ c ∈ A, c ∈ L := by exact csub) (hv : T.cells[o]? = some v := by with_unfolding_all rfl) : ld1 (.pointer (some ⟨b, o, none⟩)) K w := ld_m H (hs _ hA.tbl) hv k
theorem ldC_a (k : K v w) (hA : TblAt tb T n A := by assumption) (hc : oget b T.chs = some ch := by assumption) (H : Hp w0 w L := by assumption) (hs : ∀ c ∈ A, c ∈ L := by exact csub) (hv : ch.cells[o]? = some v := by with_unfolding_all rfl) : ld1 (.pointer (some ⟨b, o, none⟩)) K w := ld_m H (hs _ (hA.chnM hc)) hv k
theorem ldX_a (k : K v w) (hA : TblAt tb T n A := by assumption) (hc : oget b T.cns = some cx := by assumption) (H : Hp w0 w L := by assumption) (hs : ∀ c ∈ A, c ∈ L := by exact csub) (hv : cx.cells[o]? = some v := by with_unfolding_all rfl) : ld1 (.pointer (some ⟨b, o, none⟩)) K w := ld_m H (hs _ (hA.cnnM hc)) hv k
theorem ldM_a (k : K v w) (hA : TblAt tb T n A := by assumption) (hc : oget b T.mss = some m := by assumption) (H : Hp w0 w L := by assumption) (hs : ∀ c ∈ A, c ∈ L := by exact csub) (hv : m.cells[o]? = some v := by with_unfolding_all rfl) : ld1 (.pointer (some ⟨b, o, none⟩)) K w := ld_m H (hs _ (hA.msgM hc)) hv k
theorem rdT_a (k : G w) (hA : TblAt b T n A := by assumption) (H : Hp w0 w L := by assumption) (hs : ∀ c ∈ A, c ∈ L := by exact csub) (hv : T.cells[o]? = some v := by with_unfolding_all rfl) : rd1 (.pointer (some ⟨b, o, none⟩)) v G w := rd1_m H (hs _ hA.tbl) hv k
theorem rdC_a (k : G w) (hA : TblAt tb T n A := by assumption) (hc : oget b T.chs = some ch := by assumption) (H : Hp w0 w L := by assumption) (hs : ∀ c ∈ A, c ∈ L := by exact csub) (hv : ch.cells[o]? = some v := by with_unfolding_all rfl) : rd1 (.pointer (some ⟨b, o, none⟩)) v G w := rd1_m H (hs _ (hA.chnM hc)) hv k
theorem rdX_a (k : G w) (hA : TblAt tb T n A := by assumption) (hc : oget b T.cns = some cx := by assumption) (H : Hp w0 w L := by assumption) (hs : ∀ c ∈ A, c ∈ L := by exact csub) (hv : cx.cells[o]? = some v := by with_unfolding_all rfl) : rd1 (.pointer (some ⟨b, o, none⟩)) v G w := rd1_m H (hs _ (hA.cnnM hc)) hv k
theorem rdM_a (k : G w) (hA : TblAt tb T n A := by assumption) (hc : oget b T.mss = some m := by assumption) (H : Hp w0 w L := by assumption) (hs : ∀ c ∈ A, c ∈ L := by exact csub) (hv : m.cells[o]? = some v := by with_unfolding_all rfl) : rd1 (.pointer (some ⟨b, o, none⟩)) v G w := rd1_m H (hs _ (hA.msgM hc)) hv k
end
/-- What never changes. -/
structure TDat (w0 : World) (D : List Chunk) (T : Tbl) : Prop where
  ent : ∀ r c, (r, c) ∈ T.chs → ∀ e ∈ c.ents, TR cB w0 D e.dh.val e.data
  msg : ∀ r m, (r, m) ∈ T.mss → TR cB w0 D m.dh.val m.data
  tak : ∀ th r m, T.tak th = some (r, m) → (⟨r, .t 32, m.cells⟩ : Chunk) ∈ D ∧ TR cB w0 D m.dh.val m.data
  ans : ∀ th h l, T.ans th = some (h, l) → TR cB w0 D h.val l
theorem TDat.mono {w0 : World} {D D' : List Chunk} {T : Tbl} (h : TDat w0 D T) (hs : ∀ c ∈ D, c ∈ D') : TDat w0 D' T :=
  ⟨fun r c hc e he => (h.ent r c hc e he).mono hs, fun r m hm => (h.msg r m hm).mono hs, fun th r m ht => ⟨hs _ (h.tak th r m ht).1, (h.tak th r m ht).2.mono hs⟩, fun th a l ht => (h.ans th a l ht).mono hs⟩
theorem mapsH : Maps where
  ch := MapK.int (by kernel_rfl) (by kernel_rfl) (by kernel_rfl)
  cn := MapK.agg (cells := fun e : Int × Int => [I e.1, I e.2]) (ks := [0, 0]) (by kernel_rfl) (by kernel_rfl) (by kernel_rfl) (by kernel_rfl) (fun _ => rfl) (fun x y => by
    simp only [eqCells, eqLeaf, if_true]
    have : (x.1 == y.1 && (x.2 == y.2 && true)) = decide (x = y) := by rw [Bool.eq_iff_iff]; simp [Prod.ext_iff]
    rw [this]) (fun x => by simp [Instr.sameBits])
  pl := MapK.int (by kernel_rfl) (by kernel_rfl) (by kernel_rfl)
  tk := MapK.int (by kernel_rfl) (by kernel_rfl) (by kernel_rfl)
  an := MapK.int (by kernel_rfl) (by kernel_rfl) (by kernel_rfl)
  sd := MapK.int (by kernel_rfl) (by kernel_rfl) (by kernel_rfl)
end Go.Proofs.YtmkcjopacmadhaaGreat.Den
