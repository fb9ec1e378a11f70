/- Memory in pieces: what a run has laid itself, as a list of chunks; reading, writing, slices, append in these words. Conditions: none. -/
import Derived.Test.YthcekppbbanfeaaGreatHp
set_option linter.unusedVariables false
set_option linter.unusedSimpArgs false
set_option maxRecDepth 8000
namespace Go.Proofs.YthcekppbbanfeaaGreat.Den
open Go Go.RowKit
abbrev I (n : Int) : Value := .int .i64 n
abbrev U8 (n : Int) : Value := .int .u8 n
abbrev U64 (n : Int) : Value := .int .u64 n
abbrev ptr (b o : Nat) : Value := .pointer (some ⟨b, o, none⟩)
/-! ### reading -/
/-- s reads as m elements (of sz cells each), the cells ys. -/
def Rd (w : World) (sz : Nat) (s : Value) (m : Nat) (ys : List Value) : Prop :=
  (∃ c, s = .slice none m c ∧ m * sz = 0 ∧ ys = []) ∨ ∃ a c, s = .slice (some a) m c ∧ m ≤ c ∧ cellsAt w a 0 (m * sz) = some ys
theorem add_add (a : Addr) (m n : Nat) : (a.add m).add n = a.add (m + n) := by
  obtain ⟨b, o, x⟩ := a
  cases x with
  | none => simp [add_mk, Nat.add_assoc]
  | some y => unfold Addr.add; split <;> split <;> simp_all [Nat.add_assoc] <;> omega
theorem cellsAt_spec {w : World} {a : Addr} : ∀ (n i : Nat) (l : List Value), cellsAt w a i n = some l ↔ l.length = n ∧ ∀ j, j < n → w.cell? (a.add (i + j)) = l[j]?
  | 0, i, l => by
    simp only [cellsAt, Option.some.injEq]
    constructor
    · rintro rfl; simp
    · intro h; exact (List.length_eq_zero_iff.1 h.1).symm
  | n + 1, i, l => by
    simp only [cellsAt]
    constructor
    · intro h
      cases h1 : w.cell? (a.add i) with
      | none => simp [h1] at h
      | some c =>
        cases h2 : cellsAt w a (i + 1) n with
        | none => simp [h1, h2] at h
        | some l' =>
          simp only [h1, h2, Option.some.injEq] at h
          subst h
          obtain ⟨g1, g2⟩ := (cellsAt_spec n (i + 1) l').1 h2
          refine ⟨by simp [g1], fun j hj => ?_⟩
          cases j with
          | zero => simpa using h1
          | succ j => have := g2 j (by omega); simpa [Nat.add_assoc, Nat.add_comm 1 j] using this
    · rintro ⟨h1, h2⟩
      cases l with
      | nil => simp at h1
      | cons c l =>
        have e0 := h2 0 (by omega)
        simp only [Nat.add_zero, List.getElem?_cons_zero] at e0
        have := (cellsAt_spec n (i + 1) l).2 ⟨by simpa using h1, fun j hj => by have := h2 (j + 1) (by omega); simpa [Nat.add_assoc, Nat.add_comm 1 j] using this⟩
        simp only [e0, this]
theorem cellsAt_congr {w w' : World} {a : Addr} (h : w'.heap[a.block]? = w.heap[a.block]?) (n i : Nat) : cellsAt w' a i n = cellsAt w a i n := by
  have hb : ∀ i, (a.add i).block = a.block := by intro i; unfold Addr.add; split <;> rfl
  induction n generalizing i with
  | zero => rfl
  | succ n ih =>
    have : w'.cell? (a.add i) = w.cell? (a.add i) := by simp only [World.cell?, hb, h]
    simp only [cellsAt, this, ih]
theorem cell_lt {w : World} {a : Addr} {v : Value} (h : w.cell? a = some v) : a.block < w.heap.size := by
  unfold World.cell? at h
  cases hh : w.heap[a.block]? with
  | none => simp [hh] at h
  | some o => exact (Array.getElem?_eq_some_iff.1 hh).1
section
variable {w w' w0 : World} {T el sz bts n m : Nat} {z xs ys : List Value} {s src : Value} {K : VK} {R : ER}
theorem Rd.length (h : Rd w sz src m ys) : ys.length = m * sz := by
  rcases h with ⟨c, rfl, h0, rfl⟩ | ⟨a, c, rfl, hmc, h⟩
  · simp [h0]
  · exact ((cellsAt_spec _ _ _).1 h).1
theorem Rd.below (h : Rd w0 sz src m ys) (hb : Ext [] w0 w) : Rd w sz src m ys := by
  rcases h with h | ⟨a, c, rfl, hmc, h⟩
  · exact .inl h
  · by_cases h0 : m * sz = 0
    · refine .inr ⟨a, c, rfl, hmc, ?_⟩
      rw [h0] at h ⊢; exact h
    · refine .inr ⟨a, c, rfl, hmc, ?_⟩
      obtain ⟨g1, g2⟩ := (cellsAt_spec _ _ _).1 h
      have hl := g2 0 (by omega)
      rw [List.getElem?_eq_getElem (by omega)] at hl
      have hlt := cell_lt hl
      have hb' : (a.add (0 + 0)).block = a.block := by unfold Addr.add; split <;> rfl
      rw [hb'] at hlt
      rw [cellsAt_congr (hb.block _ hlt (by simp))]; exact h
theorem Rd.nil : Rd w sz (.slice none 0 0) 0 [] := .inl ⟨0, rfl, by simp, rfl⟩
theorem run_firstCells {P : Program} (h : Rd w sz src m ys) : (Builtin.firstCells sz m src).run P w = .ok ys.toArray w := by
  rcases h with ⟨c, rfl, _, rfl⟩ | ⟨a, c, rfl, hmc, h⟩
  · rfl
  · have := run_loadCells (P := P) (w := w) (a := a) (m * sz) 0 #[] _ h
    simpa [loadCells, Builtin.firstCells] using this
theorem run_lenOf {P : Program} (h : Rd w sz src m ys) : (Builtin.lenOf src).run P w = .ok m w := by
  rcases h with ⟨c, rfl, _, rfl⟩ | ⟨a, c, rfl, hmc, h⟩ <;> rfl
theorem lenS_rd (h : Rd w sz s m ys) : lenS s = some (I m) := by
  rcases h with ⟨c, rfl, _, rfl⟩ | ⟨a, c, rfl, hmc, h⟩ <;> rfl
/-- The address of an element, and what stands there. -/
theorem Rd.at (h : Rd w sz s m ys) {j : Nat} (hj : j < m) (hz : 0 < sz) {k : IntKind} : ∃ a, ixS sz s (.int k (j : Int)) = some (.pointer (some a)) ∧ ∀ f, f < sz → w.cell? (a.add f) = ys[j * sz + f]? := by
  rcases h with ⟨c, rfl, h0, rfl⟩ | ⟨a, c, rfl, hmc, h⟩
  · exfalso; have := Nat.mul_eq_zero.1 h0; omega
  · refine ⟨a.add (j * sz), ?_, fun f hf => ?_⟩
    · simp only [ixS]; rw [if_pos (by omega)]; simp
    · have := ((cellsAt_spec _ _ _).1 h).2 (j * sz + f) (by
        have : (j + 1) * sz ≤ m * sz := Nat.mul_le_mul_right _ hj
        rw [Nat.add_mul] at this; omega)
      rw [add_add]; simpa using this
/-- Reading an element of one cell. -/
theorem ix1_rd {k : IntKind} {j : Nat} {v : Value} (h : Rd w 1 s m ys) (hv : ys[j]? = some v) (g : K v w) : pv (ixS 1 s (.int k (j : Int))) (fun p => ld1 p K) w := by
  have hj : j < m := by have := (List.getElem?_eq_some_iff.1 hv).1; have := h.length; omega
  obtain ⟨a, h1, h2⟩ := h.at hj (by omega) (k := k)
  rw [h1, pv_some]
  have := h2 0 (by omega)
  have ha : a.add 0 = a := by simp [Addr.add]
  rw [ha] at this
  simp only [Nat.mul_one, Nat.add_zero, hv] at this
  simp only [ld1, this]; exact g
end
/-! ### chunks -/
inductive Tag where
  | t (t : TypeId)
  | o (o : Obj)
  | f (t : TypeId) (fr : Nat × Nat)
instance : Coe TypeId Tag := ⟨.t⟩
instance tagNat (n : Nat) : OfNat Tag n := ⟨.t n⟩
theorem tag_lit (n : Nat) : (@OfNat.ofNat Tag n (tagNat n)) = Tag.t n := rfl
structure Chunk where
  b : Nat
  t : Tag
  l : List Value
/-- What the block of a chunk holds: cells, or another object. -/
def Chunk.obj (c : Chunk) : Obj := match c.t with
  | .t n => .cells ⟨c.l⟩ n (0, 0)
  | .o x => x
  | .f n fr => .cells ⟨c.l⟩ n fr
def Tag.row : Tag → Bool
  | .o _ => false
  | _ => true
/-- What the run has laid itself since w0 holds the chunks L, apart from each other; all that was there stands. -/
structure Hp (w0 : World) (w : World) (L : List Chunk) : Prop where
  ext : Ext [] w0 w
  blk : ∀ c ∈ L, w0.heap.size ≤ c.b ∧ w.heap[c.b]? = some c.obj
  nd : (L.map Chunk.b).Nodup
section
variable {w w' : World} {w0 : World} {L L' F : List Chunk} {b o i : Nat} {t : TypeId} {l : List Value} {K : VK} {R : ER}
theorem heap_lt {b : Nat} {o : Obj} (h : w.heap[b]? = some o) : b < w.heap.size := (Array.getElem?_eq_some_iff.1 h).1
theorem heap_ext {b : Nat} {o : Obj} {S : List Nat} (h : w.heap[b]? = some o) (he : Ext S w w') (hn : b ∉ S) : w'.heap[b]? = some o := by
  rw [he.block b (heap_lt h) hn]; exact h
theorem Hp.refl (w : World) : Hp w w [] := ⟨Ext.refl _ _, by simp, by simp⟩
theorem count_le_of_sum {α : Type} {L L' : List α} (h : ∀ f : α → Nat, (L'.map f).sum ≤ (L.map f).sum) (p : α → Bool) : L'.countP p ≤ L.countP p := by
  have key : ∀ M : List α, (M.map fun c => if p c then 1 else 0).sum = M.countP p := by
    intro M
    induction M with
    | nil => rfl
    | cons a M ih => simp only [List.map_cons, List.sum_cons, ih, List.countP_cons]; omega
  rw [← key, ← key]; exact h _
theorem mem_of_sum {α : Type} {L L' : List α} (h : ∀ f : α → Nat, (L'.map f).sum ≤ (L.map f).sum) {c : α} (hc : c ∈ L') : c ∈ L := by
  classical
  have := count_le_of_sum h fun x => decide (x = c)
  have h1 : 0 < L'.countP fun x => decide (x = c) := List.countP_pos_iff.2 ⟨c, hc, by simp⟩
  obtain ⟨x, hx, he⟩ := List.countP_pos_iff.1 (Nat.lt_of_lt_of_le h1 this)
  simp at he; subst he; exact hx
theorem nodup_of_sum {L L' : List Chunk} (h : ∀ f : Chunk → Nat, (L'.map f).sum ≤ (L.map f).sum) (hn : (L.map Chunk.b).Nodup) : (L'.map Chunk.b).Nodup := by
  rw [List.nodup_iff_count] at *
  intro a
  have := count_le_of_sum h fun c => c.b == a
  have key : ∀ M : List Chunk, List.count a (M.map Chunk.b) = M.countP fun c => c.b == a := by
    intro M; rw [List.count, List.countP_map]; rfl
  rw [key] at *
  exact Nat.le_trans this (by have := hn a; rw [key] at this; exact this)
/-- The chunks in another order, or fewer of them. -/
theorem Hp.to (H : Hp w0 w L) (h : ∀ f : Chunk → Nat, (L'.map f).sum ≤ (L.map f).sum) : Hp w0 w L' :=
  ⟨H.ext, fun c hc => H.blk c (mem_of_sum h hc), nodup_of_sum h H.nd⟩
theorem Hp.drew (H : Hp w0 w L) : Hp w0 w.drew L := ⟨H.ext.trans (Ext.drew _ _), H.blk, H.nd⟩
theorem Hp.tail {c : Chunk} (H : Hp w0 w (c :: L)) : Hp w0 w L := ⟨H.ext, fun x hx => H.blk x (List.mem_cons_of_mem _ hx), (List.nodup_cons.1 (by simpa using H.nd)).2⟩
theorem Hp.right {A : List Chunk} (H : Hp w0 w (A ++ L)) : Hp w0 w L := H.to fun f => by simp only [List.map_append, List.sum_append]; omega
theorem Hp.same (H : Hp w0 w L) (he : Ext [] w w') : Hp w0 w' L := ⟨H.ext.trans he, fun c hc => ⟨(H.blk c hc).1, heap_ext (H.blk c hc).2 he (by simp)⟩, H.nd⟩
/-- A new block. -/
theorem Hp.newOf {t : Tag} {l : List Value} (H : Hp w0 w L) (hb : w'.heap[w.heap.size]? = some (Chunk.obj ⟨w.heap.size, t, l⟩)) (he : Ext [] w w') : Hp w0 w' (⟨w.heap.size, t, l⟩ :: L) := by
  refine ⟨H.ext.trans he, fun c hc => ?_, ?_⟩
  · rcases List.mem_cons.1 hc with rfl | hc
    · exact ⟨H.ext.size, hb⟩
    · exact ⟨(H.blk c hc).1, heap_ext (H.blk c hc).2 he (by simp)⟩
  · rw [List.map_cons, List.nodup_cons]
    refine ⟨fun hm => ?_, H.nd⟩
    obtain ⟨c, hc, he⟩ := List.mem_map.1 hm
    have := heap_lt (H.blk c hc).2
    have he2 : c.b = w.heap.size := he
    omega
theorem Hp.new (H : Hp w0 w L) (t : TypeId) (l : Array Value) : Hp w0 (w.alloc (.cells l t)) (⟨w.heap.size, t, l.toList⟩ :: L) := H.newOf (Blk.new w t l) (Ext.alloc [] w _)
theorem Hp.newExt {t : TypeId} {l : List Value} (H : Hp w0 w L) (hb : Blk w' w.heap.size t l) (he : Ext [] w w') : Hp w0 w' (⟨w.heap.size, t, l⟩ :: L) := H.newOf hb he
/-- A block changes. -/
theorem Hp.updO {c : Chunk} {l' : List Value} {t' : Tag} (H : Hp w0 w (c :: L)) (hb : w'.heap[c.b]? = some (Chunk.obj ⟨c.b, t', l'⟩)) (he : Ext [c.b] w w') : Hp w0 w' (⟨c.b, t', l'⟩ :: L) := by
  have hnd : c.b ∉ L.map Chunk.b := (List.nodup_cons.1 (by simpa using H.nd)).1
  have hc := H.blk c (List.mem_cons_self ..)
  refine ⟨H.ext.then he (fun k hk _ => by cases hk) (fun k hk hlt => ?_), fun x hx => ?_, H.nd⟩
  · simp at hk; subst hk; have := hc.1; omega
  · rcases List.mem_cons.1 hx with rfl | hx
    · exact ⟨hc.1, hb⟩
    · refine ⟨(H.blk x (List.mem_cons_of_mem _ hx)).1, heap_ext (H.blk x (List.mem_cons_of_mem _ hx)).2 he ?_⟩
      simp only [List.mem_singleton]
      intro hh
      exact hnd (hh ▸ List.mem_map_of_mem (f := Chunk.b) hx)
theorem Hp.upd {c : Chunk} {l' : List Value} {t' : TypeId} (H : Hp w0 w (c :: L)) (hb : Blk w' c.b t' l') (he : Ext [c.b] w w') : Hp w0 w' (⟨c.b, t', l'⟩ :: L) := H.updO hb he
theorem sum_set {α : Type} (f : α → Nat) {L : List α} {i : Nat} {c x : α} (h : L[i]? = some c) : ((L.set i x).map f).sum + f c = (L.map f).sum + f x := by
  induction L generalizing i with
  | nil => simp at h
  | cons a L ih =>
    cases i with
    | zero => simp at h; subst h; simp; omega
    | succ i =>
      simp only [List.getElem?_cons_succ] at h
      have := ih h
      simp only [List.set_cons_succ, List.map_cons, List.sum_cons]; omega
theorem sum_erase {α : Type} (f : α → Nat) {L : List α} {i : Nat} {c : α} (h : L[i]? = some c) : ((L.eraseIdx i).map f).sum + f c = (L.map f).sum := by
  induction L generalizing i with
  | nil => simp at h
  | cons a L ih =>
    cases i with
    | zero => simp at h; subst h; simp; omega
    | succ i =>
      simp only [List.getElem?_cons_succ] at h
      have := ih h
      simp only [List.eraseIdx_cons_succ, List.map_cons, List.sum_cons]; omega
theorem Hp.pull {c : Chunk} (H : Hp w0 w L) (hi : L[i]? = some c) : Hp w0 w (c :: L.eraseIdx i) :=
  H.to fun f => by have := sum_erase f hi; simp only [List.map_cons, List.sum_cons]; omega
theorem Hp.updi {b : Nat} {t t' : Tag} {l l' : List Value} (H : Hp w0 w L) (hi : L[i]? = some ⟨b, t, l⟩) (hb : w'.heap[b]? = some (Chunk.obj ⟨b, t', l'⟩)) (he : Ext [b] w w') : Hp w0 w' (L.set i ⟨b, t', l'⟩) :=
  ((H.pull hi).updO hb he).to fun f => by
    have h1 := sum_erase f hi
    have h2 := sum_set f (x := (⟨b, t', l'⟩ : Chunk)) hi
    simp only [List.map_cons, List.sum_cons]; omega
theorem Hp.at (H : Hp w0 w L) (hi : L[i]? = some ⟨b, t, l⟩) : Blk w b t l := (H.blk ⟨b, t, l⟩ (List.mem_of_getElem? hi)).2
theorem Hp.cell (H : Hp w0 w L) (i : Nat) (hi : L[i]? = some ⟨b, t, l⟩) {v : Value} (hv : l[o]? = some v) : w.cell? ⟨b, o, none⟩ = some v := by rw [(H.at hi).cell, hv]
theorem ld_h {v : Value} (H : Hp w0 w L) (i : Nat) (hi : L[i]? = some ⟨b, t, l⟩) (hv : l[o]? = some v) (k : K v w) : ld1 (.pointer (some ⟨b, o, none⟩)) K w := ld1_blk (H.at hi) hv k
theorem ldS_h {v : Value} {ws : List World} (H : Hp w0 w L) (i : Nat) (hi : L[i]? = some ⟨b, t, l⟩) (hv : l[o]? = some v) (hs : ∀ x ∈ ws, x.cell? ⟨b, o, none⟩ = some v) (k : K v w) : ld1S ws (.pointer (some ⟨b, o, none⟩)) K w := by
  simp only [ld1S, H.cell i hi hv]
  have key : ∀ (ws : List World) (G : Prop), (∀ x ∈ ws, x.cell? ⟨b, o, none⟩ = some v) → G → stab ws ⟨b, o, none⟩ v G := by
    intro ws
    induction ws with
    | nil => intro G _ g; exact g
    | cons x ws ih => intro G h g; exact ⟨h x (List.mem_cons_self ..), ih G (fun y hy => h y (List.mem_cons_of_mem _ hy)) g⟩
  exact key ws _ hs k
theorem ldN_h {n : Nat} (H : Hp w0 w L) (i : Nat) (hi : L[i]? = some ⟨b, t, l⟩) (hle : o + n ≤ l.length) (k : K (.agg ((l.drop o).take n).toArray) w) : ldN n (.pointer (some ⟨b, o, none⟩)) K w := ldN_blk (H.at hi) hle k
theorem Hp.cells (H : Hp w0 w L) (i : Nat) {n : Nat} (hi : L[i]? = some ⟨b, t, l⟩) (hn : l.length = n) : cellsAt w ⟨b, 0, none⟩ 0 n = some l := by
  have := (H.at hi).cellsAt n 0 0 (by omega)
  rw [this, ← hn]; simp
theorem Hp.part (H : Hp w0 w L) (i : Nat) (o n : Nat) (hi : L[i]? = some ⟨b, t, l⟩) (hn : o + n ≤ l.length) : cellsAt w ⟨b, o, none⟩ 0 n = some ((l.drop o).take n) := (H.at hi).cellsAt n o 0 (by omega)
theorem ldA_h {n : Nat} (H : Hp w0 w L) (i : Nat) (hi : L[i]? = some ⟨b, t, l⟩) (hn : l.length = n) (k : K (.agg ⟨l⟩) w) : ldN n (.pointer (some ⟨b, 0, none⟩)) K w := by
  simp only [ldN, H.cells i hi hn]; exact k
theorem stA_h {n : Nat} {cs : List Value} (H : Hp w0 w L) (i : Nat) (hi : L[i]? = some ⟨b, t, l⟩) (hn : cs.length = n) (hl : l.length = n) (hs : ∀ c ∈ cs, scalar c = true)
    (k : ∀ w', Hp w0 w' (L.set i ⟨b, t, cs⟩) → K undef w') : stN n (.pointer (some ⟨b, 0, none⟩)) (.agg ⟨cs⟩) K w :=
  stN_blk (H.at hi) hn (by omega) hs fun w' hb he => k w' (by
    have e : lay l 0 cs = cs := by unfold lay; rw [List.take_zero, Nat.zero_add, List.drop_of_length_le (by omega)]; simp
    have hb' : Blk w' b t cs := by have := hb; rw [show (Array.mk cs).toList = cs from rfl, e] at this; exact this
    exact H.updi (t := .t t) (t' := .t t) hi hb' he)
theorem st_h {v : Value} (H : Hp w0 w L) (i : Nat) (hi : L[i]? = some ⟨b, t, l⟩) (ho : o < l.length) (hv : scalar v = true) (k : ∀ w', Hp w0 w' (L.set i ⟨b, t, l.set o v⟩) → K undef w') :
    st1 (.pointer (some ⟨b, o, none⟩)) v K w := st1_blk (H.at hi) ho hv fun w' hb he => k w' (H.updi (t := .t t) (t' := .t t) hi hb he)
theorem stN_h {n : Nat} {cs : Array Value} (H : Hp w0 w L) (i : Nat) (hi : L[i]? = some ⟨b, t, l⟩) (hn : cs.size = n) (hle : o + n ≤ l.length) (hs : ∀ c ∈ cs.toList, scalar c = true)
    (k : ∀ w', Hp w0 w' (L.set i ⟨b, t, lay l o cs.toList⟩) → K undef w') : stN n (.pointer (some ⟨b, o, none⟩)) (.agg cs) K w :=
  stN_blk (H.at hi) hn hle hs fun w' hb he => k w' (H.updi (t := .t t) (t' := .t t) hi hb he)
theorem bx_h {v : Value} (H : Hp w0 w L) (k : ∀ w' b, Hp w0 w' (⟨b, t, v.cells.toList⟩ :: L) → K (.pointer (some ⟨b, 0, none⟩)) w') : bx t v K w :=
  k _ _ (H.new t v.cells)
theorem al_h {z : List Value} (H : Hp w0 w L) (hz : ((Pg.info? t).bind (·.zero)).map (fun z => z.cells.toList) = some z) (k : ∀ w' b, Hp w0 w' (⟨b, t, z⟩ :: L) → K (.pointer (some ⟨b, 0, none⟩)) w') : al Pg t K w := by
  unfold al
  cases h : (Pg.info? t).bind (·.zero) with
  | none => simp [h] at hz
  | some zv =>
    simp only [h, Option.map_some, Option.some.injEq] at hz
    subst hz
    exact k _ _ (H.new t zv.cells)
theorem cal_h {f : FuncId} {args : Array Value} {Q : ER} (h : Calls Pg f args w Q) (k : ∀ e w', Q e w' → retK R K e w') : cal Pg R f args K w := h.mono k
theorem row_cells {t : TypeId} {fr : Nat × Nat} {b : Nat} {l : List Value} (h : w.heap[b]? = some (.cells ⟨l⟩ t fr)) : ∀ (n o i : Nat), o + i + n ≤ l.length → cellsAt w ⟨b, o, none⟩ i n = some ((l.drop (o + i)).take n)
  | 0, o, i, _ => by simp [Den.cellsAt]
  | n + 1, o, i, hle => by
    have hlt : o + i < l.length := by omega
    have ih := row_cells h n o (i + 1) (by omega)
    have hc : w.cell? ⟨b, o + i, none⟩ = some l[o + i] := by simp [World.cell?, h, hlt]
    simp only [Den.cellsAt, add_mk, hc, ih]
    rw [List.drop_eq_getElem_cons hlt, List.take_succ_cons]; rfl
/-- A slice that can be read: what came in, or chunks. -/
def RdL (w0 : World) (L : List Chunk) (sz : Nat) (s : Value) (m : Nat) (ys : List Value) : Prop :=
  Rd w0 sz s m ys ∨ ∃ b o c, ∃ (el : Tag) (l : List Value), s = .slice (some ⟨b, o, none⟩) m c ∧ m ≤ c ∧ ((⟨b, el, l⟩ : Chunk) ∈ L ∧ el.row = true) ∧ o + m * sz ≤ l.length ∧ ys = (l.drop o).take (m * sz)
theorem RdL.rd {sz m : Nat} {s : Value} {ys : List Value} (h : RdL w0 L sz s m ys) (H : Hp w0 w L) : Rd w sz s m ys := by
  rcases h with h | ⟨b, o, c, el, l, rfl, hmc, hm, hle, rfl⟩
  · exact h.below H.ext
  · obtain ⟨hm, hr⟩ := hm
    have hb := (H.blk _ hm).2
    cases el with
    | o x => cases hr
    | t n => exact .inr ⟨_, c, rfl, hmc, row_cells (fr := (0, 0)) hb _ _ _ hle⟩
    | f n fr => exact .inr ⟨_, c, rfl, hmc, row_cells hb _ _ _ hle⟩
theorem RdL.mono {sz m : Nat} {s : Value} {ys : List Value} (h : RdL w0 L sz s m ys) (hs : ∀ c ∈ L, c ∈ L') : RdL w0 L' sz s m ys := by
  rcases h with h | ⟨b, o, c, el, l, rfl, hmc, hm, hle, rfl⟩
  · exact .inl h
  · exact .inr ⟨b, o, c, el, l, rfl, hmc, ⟨hs _ hm.1, hm.2⟩, hle, rfl⟩
theorem RdL.length {sz m : Nat} {s : Value} {ys : List Value} (h : RdL w0 L sz s m ys) : ys.length = m * sz := by
  rcases h with h | ⟨b, o, c, el, l, rfl, hmc, hm, hle, rfl⟩
  · exact h.length
  · simp; omega
theorem lenS_rdL {sz m : Nat} {s : Value} {ys : List Value} (h : RdL w0 L sz s m ys) : lenS s = some (I m) := by
  rcases h with h | ⟨b, o, c, el, l, rfl, hmc, hm, hle, rfl⟩
  · exact lenS_rd h
  · rfl
end
end Go.Proofs.YthcekppbbanfeaaGreat.Den
