/- Typed lists in memory, the heap's steps found by search, loops by a measure. Conditions: none. -/
import Derived.Test.YthcekppbbanfeaaGreatOy
set_option linter.unusedVariables false
set_option linter.unusedSimpArgs false
set_option maxRecDepth 8000
namespace Go.Proofs.YthcekppbbanfeaaGreat.Den
open Go Go.RowKit
/-! ### search in the heap's list -/
def Has (L : List Chunk) (b : Nat) (t : Tag) (l : List Value) : Prop := (⟨b, t, l⟩ : Chunk) ∈ L
def Upd (L : List Chunk) (b : Nat) (t : Tag) (l : List Value) (t' : Tag) (l' : List Value) (L' : List Chunk) : Prop := ∃ A B, L = A ++ ⟨b, t, l⟩ :: B ∧ L' = A ++ ⟨b, t', l'⟩ :: B
/-- L holds cs, and the rest is F. -/
def Split (L cs F : List Chunk) : Prop := (∀ f : Chunk → Nat, ((cs ++ F).map f).sum = (L.map f).sum) ∧ ∀ c, c ∈ L ↔ c ∈ cs ++ F
section
variable {w w' w0 : World} {L L' F A cs : List Chunk} {b o i n : Nat} {t : TypeId} {T T' : Tag} {l l' ys : List Value} {K : VK} {R : ER} {c : Chunk}
theorem Has.here : Has (⟨b, T, l⟩ :: L) b T l := List.mem_cons_self ..
theorem Has.cons (h : Has L b T l) : Has (c :: L) b T l := List.mem_cons_of_mem _ h
theorem Has.app (h : Has L b T l) : Has (A ++ L) b T l := List.mem_append_right _ h
theorem Upd.here : Upd (⟨b, T, l⟩ :: L) b T l T' l' (⟨b, T', l'⟩ :: L) := ⟨[], L, rfl, rfl⟩
theorem Upd.cons (h : Upd L b T l T' l' L') : Upd (c :: L) b T l T' l' (c :: L') := by obtain ⟨X, Y, rfl, rfl⟩ := h; exact ⟨c :: X, Y, rfl, rfl⟩
theorem Upd.app (h : Upd L b T l T' l' L') : Upd (A ++ L) b T l T' l' (A ++ L') := by obtain ⟨X, Y, rfl, rfl⟩ := h; exact ⟨A ++ X, Y, by simp, by simp⟩
theorem Upd.left (h : Upd A b T l T' l' L') : Upd (A ++ F) b T l T' l' (L' ++ F) := by obtain ⟨X, Y, rfl, rfl⟩ := h; exact ⟨X, Y ++ F, by simp, by simp⟩
theorem Split.here : Split (cs ++ F) cs F := ⟨fun _ => rfl, fun _ => Iff.rfl⟩
theorem Split.here1 : Split (c :: F) [c] F := ⟨fun _ => rfl, fun _ => Iff.rfl⟩
theorem Split.nil : Split L [] L := ⟨fun _ => rfl, fun _ => Iff.rfl⟩
theorem Split.cons (h : Split L cs F) : Split (c :: L) cs (c :: F) := ⟨fun f => by have := h.1 f; simp only [List.map_append, List.map_cons, List.sum_append, List.sum_cons] at *; omega, fun x => by have := h.2 x; simp only [List.mem_cons, List.mem_append] at *; rw [this]; exact ⟨fun h => by rcases h with h | h | h <;> simp [h], fun h => by rcases h with h | h | h <;> simp [h]⟩⟩
theorem Split.app (h : Split L cs F) : Split (A ++ L) cs (A ++ F) := ⟨fun f => by have := h.1 f; simp only [List.map_append, List.sum_append] at *; omega, fun x => by have := h.2 x; simp only [List.mem_append] at *; rw [this]; exact ⟨fun h => by rcases h with h | h | h <;> simp [h], fun h => by rcases h with h | h | h <;> simp [h]⟩⟩
theorem Hp.split (H : Hp w0 w L) (h : Split L cs F) : Hp w0 w (cs ++ F) := H.to fun f => Nat.le_of_eq (h.1 f)
theorem Hp.unsplit (H : Hp w0 w (cs ++ F)) (h : Split L cs F) : Hp w0 w L := H.to fun f => Nat.le_of_eq (h.1 f).symm
theorem Hp.updU (H : Hp w0 w L) (hu : Upd L b T l T' l' L') (hb : w'.heap[b]? = some (Chunk.obj ⟨b, T', l'⟩)) (he : Ext [b] w w') : Hp w0 w' L' := by
  obtain ⟨X, Y, rfl, rfl⟩ := hu
  have h1 : Hp w0 w (⟨b, T, l⟩ :: (X ++ Y)) := H.to fun f => by simp only [List.map_append, List.map_cons, List.sum_append, List.sum_cons]; omega
  exact (Hp.updO (c := ⟨b, T, l⟩) h1 hb he).to fun f => by simp only [List.map_append, List.map_cons, List.sum_append, List.sum_cons]; omega
theorem Upd.has (h : Upd L b T l T' l' L') : (⟨b, T, l⟩ : Chunk) ∈ L := by obtain ⟨X, Y, rfl, rfl⟩ := h; simp
theorem Hp.newO {o : Obj} (H : Hp w0 w L) : Hp w0 (w.alloc o) (⟨w.heap.size, .o o, []⟩ :: L) := H.newOf (by show (w.heap.push o)[w.heap.size]? = _; simp [Chunk.obj]) (Ext.alloc [] w _)
theorem Hp.bl (H : Hp w0 w L) (h : Has L b (.t t) l) : Blk w b t l := (H.blk _ h).2
theorem ld_m {v : Value} (H : Hp w0 w L) (hm : Has L b (.t t) l) (hv : l[o]? = some v) (k : K v w) : ld1 (.pointer (some ⟨b, o, none⟩)) K w := ld1_blk (H.bl hm) hv k
theorem ldS_m {v : Value} {ws : List World} (H : Hp w0 w L) (hm : Has L b (.t t) l) (hv : l[o]? = some v) (hs : ∀ x ∈ ws, x.cell? ⟨b, o, none⟩ = some v) (k : K v w) : ld1S ws (.pointer (some ⟨b, o, none⟩)) K w := by
  simp only [ld1S, (H.bl hm).cell, hv]
  have key : ∀ (ws : List World) (G : Prop), (∀ x ∈ ws, x.cell? ⟨b, o, none⟩ = some v) → G → stab ws ⟨b, o, none⟩ v G := by
    intro ws
    induction ws with
    | nil => intro G _ g; exact g
    | cons x ws ih => intro G h g; exact ⟨h x (List.mem_cons_self ..), ih G (fun y hy => h y (List.mem_cons_of_mem _ hy)) g⟩
  exact key ws _ hs k
theorem Hp.cellM (H : Hp w0 w L) (hm : Has L b (.t t) l) {v : Value} (hv : l[o]? = some v) : w.cell? ⟨b, o, none⟩ = some v := by rw [(H.bl hm).cell, hv]
theorem Hp.cellsM (H : Hp w0 w L) (hm : Has L b (.t t) l) (hn : l.length = n) : cellsAt w ⟨b, 0, none⟩ 0 n = some l := by
  have := (H.bl hm).cellsAt n 0 0 (by omega)
  rw [this, ← hn]; simp
theorem Hp.partM (H : Hp w0 w L) (hm : Has L b (.t t) l) (hn : o + n ≤ l.length) (hy : (l.drop o).take n = ys) : cellsAt w ⟨b, o, none⟩ 0 n = some ys := by rw [← hy]; exact (H.bl hm).cellsAt n o 0 (by omega)
theorem ldA_m (H : Hp w0 w L) (hm : Has L b (.t t) l) (hn : l.length = n) (k : K (.agg ⟨l⟩) w) : ldN n (.pointer (some ⟨b, 0, none⟩)) K w := by
  simp only [ldN, H.cellsM hm hn]; exact k
theorem ldP_m (H : Hp w0 w L) (hm : Has L b (.t t) l) (hn : o + n ≤ l.length) (hy : (l.drop o).take n = ys) (k : K (.agg ⟨ys⟩) w) : ldN n (.pointer (some ⟨b, o, none⟩)) K w := by
  simp only [ldN, H.partM hm hn hy]; exact k
theorem ldNS_m {ws : List World} (H : Hp w0 w L) (hm : Has L b (.t t) l) (hn : l.length = n) (hs : ∀ x ∈ ws, cellsAt x ⟨b, 0, none⟩ 0 n = some l) (k : K (.agg ⟨l⟩) w) : ldNS ws n (.pointer (some ⟨b, 0, none⟩)) K w := by
  simp only [ldNS, H.cellsM hm hn]
  have key : ∀ (ws : List World) (G : Prop), (∀ x ∈ ws, cellsAt x ⟨b, 0, none⟩ 0 n = some l) → G → stabN ws ⟨b, 0, none⟩ n l G := by
    intro ws
    induction ws with
    | nil => intro G _ g; exact g
    | cons x ws ih => intro G h g; exact ⟨h x (List.mem_cons_self ..), ih G (fun y hy => h y (List.mem_cons_of_mem _ hy)) g⟩
  exact key ws _ hs k
theorem st_m {v : Value} (H : Hp w0 w L) (hu : Upd L b (.t t) l (.t t) (l.set o v) L') (ho : o < l.length) (hv : scalar v = true) (k : ∀ w', Hp w0 w' L' → K undef w') :
    st1 (.pointer (some ⟨b, o, none⟩)) v K w := st1_blk (H.bl hu.has) ho hv fun w' hb he => k w' (H.updU hu hb he)
theorem stA_m {vs : List Value} (H : Hp w0 w L) (hu : Upd L b (.t t) l (.t t) vs L') (hn : vs.length = n) (hl : l.length = n) (hs : ∀ c ∈ vs, scalar c = true)
    (k : ∀ w', Hp w0 w' L' → K undef w') : stN n (.pointer (some ⟨b, 0, none⟩)) (.agg ⟨vs⟩) K w :=
  stN_blk (H.bl hu.has) hn (by omega) hs fun w' hb he => k w' (by
    have e : lay l 0 vs = vs := by unfold lay; rw [List.take_zero, Nat.zero_add, List.drop_of_length_le (by omega)]; simp
    have hb' : Blk w' b t vs := by have := hb; rw [show (Array.mk vs).toList = vs from rfl, e] at this; exact this
    exact H.updU hu hb' he)
theorem stP_m {vs : List Value} (H : Hp w0 w L) (hu : Upd L b (.t t) l (.t t) (lay l o vs) L') (hn : vs.length = n) (hl : o + n ≤ l.length) (hs : ∀ c ∈ vs, scalar c = true)
    (k : ∀ w', Hp w0 w' L' → K undef w') : stN n (.pointer (some ⟨b, o, none⟩)) (.agg ⟨vs⟩) K w :=
  stN_blk (H.bl hu.has) hn hl hs fun w' hb he => k w' (H.updU hu hb he)
/-! ### comparisons split -/
theorem lss_k {k : IntKind} {x y : Int} (h1 : x < y → K (.bool true) w) (h2 : ¬ x < y → K (.bool false) w) : pv (bin .lss (.int k x) (.int k y)) K w := by
  rw [bin_lss, pv_some]; by_cases h : x < y
  · rw [decide_eq_true h]; exact h1 h
  · rw [decide_eq_false h]; exact h2 h
theorem leq_k {k : IntKind} {x y : Int} (h1 : x ≤ y → K (.bool true) w) (h2 : ¬ x ≤ y → K (.bool false) w) : pv (bin .leq (.int k x) (.int k y)) K w := by
  rw [bin_leq, pv_some]; by_cases h : x ≤ y
  · rw [decide_eq_true h]; exact h1 h
  · rw [decide_eq_false h]; exact h2 h
theorem gtr_k {k : IntKind} {x y : Int} (h1 : y < x → K (.bool true) w) (h2 : ¬ y < x → K (.bool false) w) : pv (bin .gtr (.int k x) (.int k y)) K w := by
  rw [bin_gtr, pv_some]; by_cases h : y < x
  · rw [decide_eq_true h]; exact h1 h
  · rw [decide_eq_false h]; exact h2 h
theorem geq_k {k : IntKind} {x y : Int} (h1 : y ≤ x → K (.bool true) w) (h2 : ¬ y ≤ x → K (.bool false) w) : pv (bin .geq (.int k x) (.int k y)) K w := by
  rw [bin_geq, pv_some]; by_cases h : y ≤ x
  · rw [decide_eq_true h]; exact h1 h
  · rw [decide_eq_false h]; exact h2 h
theorem eql_k {k : IntKind} {x y : Int} (h1 : x = y → K (.bool true) w) (h2 : x ≠ y → K (.bool false) w) : pv (bin .eql (.int k x) (.int k y)) K w := by
  rw [bin_eql, pv_some]; by_cases h : x = y
  · rw [decide_eq_true h]; exact h1 h
  · rw [decide_eq_false h]; exact h2 h
theorem neq_k {k : IntKind} {x y : Int} (h1 : x ≠ y → K (.bool true) w) (h2 : x = y → K (.bool false) w) : pv (bin .neq (.int k x) (.int k y)) K w := by
  rw [bin_neq, pv_some]; by_cases h : x = y
  · rw [decide_eq_false (by simpa using h)]; exact h2 h
  · rw [decide_eq_true h]; exact h1 h
theorem cnd_k {v : Bool} {A B : WP} (h1 : v = true → A w) (h2 : v = false → B w) : cnd (.bool v) A B w := by
  cases v
  · exact h2 rfl
  · exact h1 rfl
theorem add_k {x y z : Int} (h1 : -9223372036854775808 ≤ x + y) (h2 : x + y ≤ 9223372036854775807) (hz : x + y = z) (g : K (I z) w) : pv (bin .add (I x) (I y)) K w := by
  rw [bin_add, pv_some, wrap64_id h1 h2, hz]; exact g
theorem sub_k {x y z : Int} (h1 : -9223372036854775808 ≤ x - y) (h2 : x - y ≤ 9223372036854775807) (hz : x - y = z) (g : K (I z) w) : pv (bin .sub (I x) (I y)) K w := by
  rw [bin_sub, pv_some, wrap64_id h1 h2, hz]; exact g
theorem lss_y {k : IntKind} {x y : Int} (h : x < y) (g : K (.bool true) w) : pv (bin .lss (.int k x) (.int k y)) K w := by rw [bin_lss, pv_some, decide_eq_true h]; exact g
theorem lss_n {k : IntKind} {x y : Int} (h : ¬ (x < y)) (g : K (.bool false) w) : pv (bin .lss (.int k x) (.int k y)) K w := by rw [bin_lss, pv_some, decide_eq_false h]; exact g
theorem leq_y {k : IntKind} {x y : Int} (h : x ≤ y) (g : K (.bool true) w) : pv (bin .leq (.int k x) (.int k y)) K w := by rw [bin_leq, pv_some, decide_eq_true h]; exact g
theorem leq_n {k : IntKind} {x y : Int} (h : ¬ (x ≤ y)) (g : K (.bool false) w) : pv (bin .leq (.int k x) (.int k y)) K w := by rw [bin_leq, pv_some, decide_eq_false h]; exact g
theorem gtr_y {k : IntKind} {x y : Int} (h : y < x) (g : K (.bool true) w) : pv (bin .gtr (.int k x) (.int k y)) K w := by rw [bin_gtr, pv_some, decide_eq_true h]; exact g
theorem gtr_n {k : IntKind} {x y : Int} (h : ¬ (y < x)) (g : K (.bool false) w) : pv (bin .gtr (.int k x) (.int k y)) K w := by rw [bin_gtr, pv_some, decide_eq_false h]; exact g
theorem geq_y {k : IntKind} {x y : Int} (h : y ≤ x) (g : K (.bool true) w) : pv (bin .geq (.int k x) (.int k y)) K w := by rw [bin_geq, pv_some, decide_eq_true h]; exact g
theorem geq_n {k : IntKind} {x y : Int} (h : ¬ (y ≤ x)) (g : K (.bool false) w) : pv (bin .geq (.int k x) (.int k y)) K w := by rw [bin_geq, pv_some, decide_eq_false h]; exact g
theorem eql_y {k : IntKind} {x y : Int} (h : x = y) (g : K (.bool true) w) : pv (bin .eql (.int k x) (.int k y)) K w := by rw [bin_eql, pv_some, decide_eq_true h]; exact g
theorem eql_n {k : IntKind} {x y : Int} (h : ¬ (x = y)) (g : K (.bool false) w) : pv (bin .eql (.int k x) (.int k y)) K w := by rw [bin_eql, pv_some, decide_eq_false h]; exact g
theorem neq_y {k : IntKind} {x y : Int} (h : x ≠ y) (g : K (.bool true) w) : pv (bin .neq (.int k x) (.int k y)) K w := by rw [bin_neq, pv_some, decide_eq_true h]; exact g
theorem neq_n {k : IntKind} {x y : Int} (h : ¬ (x ≠ y)) (g : K (.bool false) w) : pv (bin .neq (.int k x) (.int k y)) K w := by rw [bin_neq, pv_some, decide_eq_false h]; exact g
theorem drew_k {F : WP} (H : Hp w0 w L) (g : ∀ w', Hp w0 w' L → F w') : drewV F w := g _ H.drew
theorem ext3 (a b c d : Value) (l : List Value) : extO 3 (.tuple ⟨a :: b :: c :: d :: l⟩) = some d := by simp [extO]
theorem ext4 (a b c d e : Value) (l : List Value) : extO 4 (.tuple ⟨a :: b :: c :: d :: e :: l⟩) = some e := by simp [extO]
theorem eqNilS_none (n c : Nat) : eqNilS (.slice none n c) = some (.bool true) := rfl
theorem eqNilS_some (a : Addr) (n c : Nat) : eqNilS (.slice (some a) n c) = some (.bool false) := rfl
theorem neNilS_none (n c : Nat) : neNilS (.slice none n c) = some (.bool false) := rfl
theorem neNilS_some (a : Addr) (n c : Nat) : neNilS (.slice (some a) n c) = some (.bool true) := rfl
theorem cvI_mk (k k' : IntKind) (n : Int) : cvI k (.int k' n) = some (.int k (k.wrap n)) := rfl
theorem calD_k {f : Nat} {a b c : List Value} (h : enterOk Pg f = true) (g : cal Pg R f ⟨a ++ b ++ c⟩ K w) : calD Pg R (.func (.func f) ⟨a⟩ ⟨c⟩) ⟨b⟩ K w := by
  unfold calD; simp only [h, cond_true]
  have : (⟨a⟩ ++ ⟨b⟩ ++ ⟨c⟩ : Array Value) = ⟨a ++ b ++ c⟩ := by apply Array.ext'; simp
  rw [this]; exact g
theorem rd1_a {a : Addr} {v : Value} {G : WP} (h : w.cell? a = some v) (g : G w) : rd1 (.pointer (some a)) v G w := by
  unfold rd1; simp only [h, true_and]; exact g
theorem rd1_m {v : Value} {G : WP} (H : Hp w0 w L) (hm : Has L b (.t t) l) (hv : l[o]? = some v) (g : G w) : rd1 (.pointer (some ⟨b, o, none⟩)) v G w := rd1_a (H.cellM hm hv) g
theorem rdA_m {G : WP} (H : Hp w0 w L) (hm : Has L b (.t t) l) (hn : l.length = n) (g : G w) : rdN n (.pointer (some ⟨b, 0, none⟩)) (.agg ⟨l⟩) G w := by
  rw [rdN_a (H.cellsM hm hn)]; exact g
theorem bx_m {vs : List Value} (H : Hp w0 w L) (k : ∀ w' b, Hp w0 w' (⟨b, t, vs⟩ :: L) → K (.pointer (some ⟨b, 0, none⟩)) w') : bx t (.agg ⟨vs⟩) K w := bx_h H k
theorem al_m (H : Hp w0 w L) (hz : ((Pg.info? t).bind (·.zero)).map (fun z => z.cells.toList) = some ys) (k : ∀ w' b, Hp w0 w' (⟨b, t, ys⟩ :: L) → K (.pointer (some ⟨b, 0, none⟩)) w') : al Pg t K w := al_h H hz k
theorem pv_of {o : Option Value} {v : Value} (h : o = some v) (g : K v w) : pv o K w := by rw [h, pv_some]; exact g
end
/-! ### codes -/
structure Cod (α : Type) where
  sz : Nat
  enc : α → List Value
  len : ∀ a, (enc a).length = sz
  sc : ∀ a, ∀ c ∈ enc a, scalar c = true
section
variable {α β : Type} {C : Cod α} {xs zs : List α} {x : α}
def Cod.all (C : Cod α) (xs : List α) : List Value := (xs.map C.enc).flatten
theorem flat_length {α : Type} {sz : Nat} : ∀ {L : List (List α)}, (∀ l ∈ L, l.length = sz) → L.flatten.length = L.length * sz
  | [], _ => by simp
  | a :: L, h => by
    rw [List.flatten_cons, List.length_append, h a (by simp), flat_length (fun l hl => h l (by simp [hl])), List.length_cons, Nat.add_mul]; omega
theorem flat_get {α : Type} {sz : Nat} : ∀ {L : List (List α)}, (∀ l ∈ L, l.length = sz) → ∀ {i j : Nat} {l : List α}, L[i]? = some l → j < sz → L.flatten[i * sz + j]? = l[j]?
  | [], _, i, j, l, h, _ => by simp at h
  | a :: L, hL, 0, j, l, h, hj => by
    simp only [List.getElem?_cons_zero, Option.some.injEq] at h; subst h
    rw [List.flatten_cons, Nat.zero_mul, Nat.zero_add, List.getElem?_append_left (by rw [hL a (by simp)]; exact hj)]
  | a :: L, hL, i + 1, j, l, h, hj => by
    simp only [List.getElem?_cons_succ] at h
    have ha := hL a (by simp)
    rw [List.flatten_cons, List.getElem?_append_right (by rw [ha, Nat.add_mul]; omega), ha]
    have : (i + 1) * sz + j - sz = i * sz + j := by rw [Nat.add_mul]; omega
    rw [this]
    exact flat_get (fun l hl => hL l (by simp [hl])) h hj
theorem flat_drop {α : Type} {sz : Nat} : ∀ {L : List (List α)}, (∀ l ∈ L, l.length = sz) → ∀ j, (L.drop j).flatten = L.flatten.drop (j * sz)
  | [], _, j => by simp
  | a :: L, h, 0 => by simp
  | a :: L, h, j + 1 => by
    have ha := h a (by simp)
    rw [List.drop_succ_cons, flat_drop (fun l hl => h l (by simp [hl])), List.flatten_cons, List.drop_append]
    have h1 : a.drop ((j + 1) * sz) = [] := List.drop_of_length_le (by rw [ha, Nat.add_mul]; omega)
    rw [h1, List.nil_append, ha]
    congr 1; rw [Nat.add_mul]; omega
theorem flat_take {α : Type} {sz : Nat} : ∀ {L : List (List α)}, (∀ l ∈ L, l.length = sz) → ∀ j, (L.take j).flatten = L.flatten.take (j * sz)
  | [], _, j => by simp
  | a :: L, h, 0 => by simp
  | a :: L, h, j + 1 => by
    have ha := h a (by simp)
    rw [List.take_succ_cons, List.flatten_cons, flat_take (fun l hl => h l (by simp [hl])), List.flatten_cons, List.take_append, ha]
    have h1 : a.take ((j + 1) * sz) = a := List.take_of_length_le (by rw [ha, Nat.add_mul]; omega)
    rw [h1]
    congr 2; rw [Nat.add_mul]; omega
theorem all_lens : ∀ l ∈ xs.map C.enc, l.length = C.sz := by
  intro l hl; obtain ⟨a, _, rfl⟩ := List.mem_map.1 hl; exact C.len a
theorem all_len : (C.all xs).length = xs.length * C.sz := by rw [Cod.all, flat_length all_lens, List.length_map]
theorem all_app : C.all (xs ++ zs) = C.all xs ++ C.all zs := by simp [Cod.all]
theorem all_nil : C.all [] = [] := rfl
theorem all_one : C.all [x] = C.enc x := by simp [Cod.all]
theorem all_sc : ∀ c ∈ C.all xs, scalar c = true := by
  intro c hc
  obtain ⟨l, hl, hc⟩ := List.mem_flatten.1 hc
  obtain ⟨a, _, rfl⟩ := List.mem_map.1 hl
  exact C.sc a c hc
theorem all_get {i j : Nat} (h : xs[i]? = some x) (hj : j < C.sz) : (C.all xs)[i * C.sz + j]? = (C.enc x)[j]? := flat_get all_lens (by simp [h]) hj
theorem all_drop (k : Nat) : (C.all xs).drop (k * C.sz) = C.all (xs.drop k) := by rw [Cod.all, ← flat_drop all_lens, Cod.all, List.map_drop]
theorem all_take (k : Nat) : (C.all xs).take (k * C.sz) = C.all (xs.take k) := by rw [Cod.all, ← flat_take all_lens, Cod.all, List.map_take]
theorem all_part {i : Nat} (h : xs[i]? = some x) : ((C.all xs).drop (i * C.sz)).take C.sz = C.enc x := by
  obtain ⟨hi, hx⟩ := List.getElem?_eq_some_iff.1 h
  rw [all_drop, List.drop_eq_getElem_cons hi, hx]
  simp [Cod.all, C.len]
theorem all_lay {i : Nat} (h : i < xs.length) : lay (C.all xs) (i * C.sz) (C.enc x) = C.all (xs.set i x) := by
  unfold lay
  have e : i * C.sz + (C.enc x).length = (i + 1) * C.sz := by rw [C.len, Nat.add_mul]; omega
  rw [e, all_take, all_drop, ← all_one (C := C) (x := x), ← all_app, ← all_app, List.set_eq_take_append_cons_drop, if_pos h]; simp
/-- Slices of such. -/
def TR (C : Cod α) (w0 : World) (cs : List Chunk) (s : Value) (xs : List α) : Prop := RdL w0 cs C.sz s xs.length (C.all xs)
def TS (C : Cod α) (el : Nat) (s : Value) (xs : List α) (cs : List Chunk) : Prop := Sl el C.sz s xs.length (C.all xs) cs
variable {w w' w0 : World} {L L' F cs cs2 : List Chunk} {s s2 : Value} {K : VK} {R : ER} {el i j T bts : Nat} {z : List Value} {v : Value}
theorem TS.tr (h : TS C el s xs cs) : TR C w0 cs s xs := Sl.rdL h fun _ hc => hc
theorem TR.mono (h : TR C w0 cs s xs) (hs : ∀ c ∈ cs, c ∈ cs2) : TR C w0 cs2 s xs := RdL.mono h hs
theorem TR.rd (h : TR C w0 cs s xs) (H : Hp w0 w L) (hs : ∀ c ∈ cs, c ∈ L) : Rd w C.sz s xs.length (C.all xs) := (RdL.mono h hs).rd H
theorem TR.nil : TR C w0 cs (.slice none 0 0) [] := .inl (.inl ⟨0, rfl, by simp, rfl⟩)
theorem TS.nil : TS C el (.slice none 0 0) [] [] := Sl.nil
theorem lenS_tr (h : TR C w0 cs s xs) : lenS s = some (I (xs.length : Int)) := lenS_rdL h
theorem lenS_ts (h : TS C el s xs cs) : lenS s = some (I (xs.length : Int)) := lenS_sl h
theorem TR.ix (h : TR C w0 cs s xs) (H : Hp w0 w L) (hs : ∀ c ∈ cs, c ∈ L) (hx : xs[i]? = some x) {k : IntKind} (hz : 0 < C.sz) : ∃ a, ixS C.sz s (.int k (i : Int)) = some (.pointer (some a)) ∧ ∀ f, f < C.sz → w.cell? (a.add f) = (C.enc x)[f]? := by
  obtain ⟨a, h1, h2⟩ := (h.rd H hs).at (List.getElem?_eq_some_iff.1 hx).1 hz (k := k)
  exact ⟨a, h1, fun f hf => by rw [h2 f hf, all_get hx hf]⟩
/-- Reading an element of one cell. -/
theorem ix1_t {k : IntKind} (h : TR C w0 cs s xs) (H : Hp w0 w L) (hs : ∀ c ∈ cs, c ∈ L) (hx : xs[i]? = some x) (h1 : C.sz = 1) (hv : C.enc x = [v]) (g : K v w) : pv (ixS 1 s (.int k (i : Int))) (fun p => ld1 p K) w := by
  obtain ⟨a, e, h2⟩ := h.ix H hs hx (k := k) (by omega)
  rw [h1] at e
  rw [e, pv_some]
  have := h2 0 (by omega)
  have ha : a.add 0 = a := by simp [Addr.add]
  rw [ha, hv] at this
  simp only [ld1, this]; exact g
/-- .. a whole element. -/
theorem ixN_t {k : IntKind} (h : TR C w0 cs s xs) (H : Hp w0 w L) (hs : ∀ c ∈ cs, c ∈ L) (hx : xs[i]? = some x) (hz : 0 < C.sz) (g : K (.agg ⟨C.enc x⟩) w) : pv (ixS C.sz s (.int k (i : Int))) (fun p => ldN C.sz p K) w := by
  obtain ⟨a, e, h2⟩ := h.ix H hs hx (k := k) hz
  rw [e, pv_some]
  have : cellsAt w a 0 C.sz = some (C.enc x) := (cellsAt_spec _ _ _).2 ⟨C.len x, fun j hj => by rw [Nat.zero_add]; exact h2 j hj⟩
  simp only [ldN, this]; exact g
/-- .. a field of an element. -/
theorem ixF_t {k : IntKind} {f : Nat} (h : TR C w0 cs s xs) (H : Hp w0 w L) (hs : ∀ c ∈ cs, c ∈ L) (hx : xs[i]? = some x) (hf : (C.enc x)[f]? = some v) (g : K v w) : pv (ixS C.sz s (.int k (i : Int))) (fun p => pv (faO f p) fun q => ld1 q K) w := by
  have hfl : f < C.sz := by have := (List.getElem?_eq_some_iff.1 hf).1; rw [C.len] at this; exact this
  obtain ⟨a, e, h2⟩ := h.ix H hs hx (k := k) (by omega)
  rw [e, pv_some]
  have : faO f (.pointer (some a)) = some (.pointer (some (a.add f))) := rfl
  rw [this, pv_some]
  have := h2 f hfl
  rw [hf] at this
  simp only [ld1, this]; exact g
theorem TR.sc (h : TR C w0 cs s xs) : scalar s = true := by
  rcases h with (⟨c, rfl, _⟩ | ⟨a, c, rfl, _⟩) | ⟨b, o, c, e, l, rfl, _⟩ <;> rfl
theorem TS.sc (h : TS C el s xs cs) : scalar s = true := (h.tr (w0 := default)).sc
theorem TR.cells (h : TR C w0 cs s xs) : s.cells = #[s] := by
  rcases h with (⟨c, rfl, _⟩ | ⟨a, c, rfl, _⟩) | ⟨b, o, c, e, l, rfl, _⟩ <;> rfl
theorem ix1p_t {k : IntKind} {K : Value → VK} (h : TR C w0 cs s xs) (H : Hp w0 w L) (hs : ∀ c ∈ cs, c ∈ L) (hx : xs[i]? = some x) (h1 : C.sz = 1) (hv : C.enc x = [v])
    (g : ∀ a, ixS 1 s (.int k (i : Int)) = some (.pointer (some a)) → (∀ w' L', Hp w0 w' L' → (∀ c ∈ cs, c ∈ L') → w'.cell? a = some v) → K (.pointer (some a)) v w) : pv (ixS 1 s (.int k (i : Int))) (fun p => ld1 p (K p)) w := by
  obtain ⟨a, e, h2⟩ := h.ix H hs hx (k := k) (by omega)
  rw [h1] at e
  have key : ∀ w' L', Hp w0 w' L' → (∀ c ∈ cs, c ∈ L') → w'.cell? a = some v := by
    intro w' L' H' hs'
    obtain ⟨a', e', h2'⟩ := h.ix H' hs' hx (k := k) (by omega)
    rw [h1, e] at e'
    injection e' with e'; injection e' with e'; injection e' with e'; subst e'
    have := h2' 0 (by omega)
    rw [show a.add 0 = a from by simp [Addr.add], hv] at this
    exact this
  have hc := key w L H hs
  rw [e, pv_some]
  have := g a e key
  simp only [ld1, hc]; exact this
theorem TS.chunk (h : TS C el s xs cs) (hn : 0 < xs.length) : ∃ b cap rest, cs = [⟨b, el, C.all xs ++ rest⟩] ∧ s = .slice (some ⟨b, 0, none⟩) xs.length cap ∧ xs.length ≤ cap ∧ rest.length = (cap - xs.length) * C.sz := by
  obtain ⟨b, cap, rest, h1, h2, h3, h4, h5⟩ := Sl.chunk h hn
  exact ⟨b, cap, rest, h1, h2, h4, h5⟩
theorem TS.mk {b cap n : Nat} {rest : List Value} (hn : n = xs.length) (hc : n ≤ cap) (hr : rest.length = (cap - n) * C.sz) : TS C el (.slice (some ⟨b, 0, none⟩) n cap) xs [⟨b, el, C.all xs ++ rest⟩] := by
  subst hn; exact .inr ⟨b, cap, rest, rfl, rfl, all_len, hc, hr⟩
/-- Writing an element (its cells through a pointer to it). -/
theorem TS.at (h : TS C el s xs cs) (hi : i < xs.length) {k : IntKind} : ∃ b, ixS C.sz s (.int k (i : Int)) = some (ptr b (i * C.sz)) ∧ ∃ rest, cs = [⟨b, el, C.all xs ++ rest⟩] ∧
    ∀ x, ∀ l', l' = lay (C.all xs ++ rest) (i * C.sz) (C.enc x) → TS C el s (xs.set i x) [⟨b, el, l'⟩] := by
  obtain ⟨b, cap, rest, h1, rfl, h2, h3⟩ := h.chunk (by omega)
  refine ⟨b, ?_, rest, h1, fun x l' hl => ?_⟩
  · have := ixS_mk (sz := C.sz) (b := b) (o := 0) (c := cap) (k := k) hi
    rw [this, Nat.zero_add]
  · have : l' = C.all (xs.set i x) ++ rest := by
      rw [hl, ← all_lay hi]
      have hle : i * C.sz + (C.enc x).length ≤ (C.all xs).length := by
        rw [C.len, all_len, ← Nat.succ_mul]; exact Nat.mul_le_mul_right _ hi
      unfold lay
      rw [List.take_append_of_le_length (by omega), List.drop_append_of_le_length hle]
      simp [List.append_assoc]
    rw [this]
    exact TS.mk (by simp) h2 h3
theorem ist1_t {k : IntKind} (h : TS C el s xs cs) (H : Hp w0 w L) (hS : Split L cs F) (hi : i < xs.length) (h1 : C.sz = 1) (hv : C.enc x = [v])
    (g : ∀ w' cs', Hp w0 w' (cs' ++ F) → TS C el s (xs.set i x) cs' → K undef w') : pv (ixS 1 s (.int k (i : Int))) (fun p => st1 p v K) w := by
  obtain ⟨b, e, rest, rfl, h2⟩ := h.at hi (k := k)
  rw [h1] at e
  rw [e, pv_some]
  have hle : i * 1 < (C.all xs ++ rest).length := by rw [List.length_append, all_len, h1]; omega
  have hsc : scalar v = true := C.sc x v (by rw [hv]; simp)
  refine st_m (H.split hS) (Upd.here) hle hsc fun w' H' => ?_
  refine g w' [⟨b, el, (C.all xs ++ rest).set (i * 1) v⟩] H' (h2 x _ ?_)
  rw [h1, hv]
  unfold lay
  rw [List.set_eq_take_append_cons_drop, if_pos hle]; simp
theorem istN_t {k : IntKind} (h : TS C el s xs cs) (H : Hp w0 w L) (hS : Split L cs F) (hi : i < xs.length)
    (g : ∀ w' cs', Hp w0 w' (cs' ++ F) → TS C el s (xs.set i x) cs' → K undef w') : pv (ixS C.sz s (.int k (i : Int))) (fun p => stN C.sz p (.agg ⟨C.enc x⟩) K) w := by
  obtain ⟨b, e, rest, rfl, h2⟩ := h.at hi (k := k)
  rw [e, pv_some]
  refine stP_m (H.split hS) (Upd.here) (C.len x) ?_ (C.sc x) fun w' H' => g w' _ H' (h2 x _ rfl)
  rw [List.length_append, all_len]
  have : (i + 1) * C.sz ≤ xs.length * C.sz := Nat.mul_le_mul_right _ hi
  rw [Nat.succ_mul] at this; omega
/-- Literals, make, append. -/
theorem lit0_t (hT : ElT T el C.sz bts z) (H : Hp w0 w L) (k : ∀ w' s, Hp w0 w' L → TS C el s [] [] → K s w') : valV Pg R (Instr.buildSlice T 0 ⟨[]⟩) K w := lit0_h hT H fun w' s h1 h2 => k w' s h1 h2
theorem lit1_t (hT : ElT T el C.sz bts z) (H : Hp w0 w L) (hv : v.cells = ⟨C.enc x⟩) (hsz1 : C.sz ≤ 2 ^ 24)
    (k : ∀ w' s cs, Hp w0 w' (cs ++ L) → TS C el s [x] cs → K s w') : valV Pg R (Instr.buildSlice T 1 ⟨[(0, v)]⟩) K w :=
  lit1_h hT H (by rw [hv]; exact C.len x) hsz1 fun w' b H' => k w' _ [⟨b, el, C.enc x⟩] (by rw [hv] at H'; exact H') (by
    have := TS.mk (C := C) (el := el) (xs := [x]) (b := b) (cap := 1) (n := 1) (rest := []) rfl (Nat.le_refl _) (by simp)
    rw [all_one, List.append_nil] at this; exact this)
theorem lit_t {parts : List (Nat × Value)} {len : Nat} (xs : List α) (hT : ElT T el C.sz bts z) (H : Hp w0 w L) (hlen : xs.length = len) (hle : len * C.sz ≤ 2 ^ 24) (h0 : len * C.sz ≠ 0)
    (hr : buildL ((List.range (len * C.sz)).map fun x => z[x % C.sz]!) (parts.map fun p => (p.1 * C.sz, C.sz, p.2)) = some (C.all xs))
    (k : ∀ w' s cs, Hp w0 w' (cs ++ L) → TS C el s xs cs → K s w') : valV Pg R (Instr.buildSlice T len ⟨parts⟩) K w :=
  lit_h hT H hle h0 hr fun w' b H' => k w' _ [⟨b, el, C.all xs⟩] H' (by
    have := TS.mk (C := C) (el := el) (xs := xs) (b := b) (cap := len) (n := len) (rest := []) hlen.symm (Nat.le_refl _) (by simp)
    rw [List.append_nil] at this; exact this)
theorem make_t {N : Int} {n : Nat} (hT : ElT T el C.sz bts z) (hz : C.enc x = z) (H : Hp w0 w L) (hN : N = (n : Int)) (hsz : n * bts ≤ 2 ^ 48) (hc : n < 2 ^ 62)
    (k : ∀ w' s cs, Hp w0 w' (cs ++ L) → TS C el s (List.replicate n x) cs → K s w') : valV Pg R (Instr.makeSlice T (I N) (I N)) K w :=
  make_h hT H hN hN (Nat.le_refl _) hsz hc fun w' b H' => k w' _ [⟨b, el, (List.replicate n z).flatten⟩] H' (by
    have := TS.mk (C := C) (el := el) (xs := List.replicate n x) (b := b) (cap := n) (n := n) (rest := []) (by simp) (Nat.le_refl _) (by simp)
    rw [List.append_nil, Cod.all, List.map_replicate, hz] at this; exact this)
theorem append_t (hT : ElT T el C.sz bts z) (H : Hp w0 w L) (hs : TS C el s xs cs) (hS : Split L cs F) (hsrc : TR C w0 cs2 s2 zs) (hs2 : ∀ c ∈ cs2, c ∈ L) (hsize : (2 * (xs.length + zs.length) + 1000) * bts ≤ 2 ^ 48) (hnm : xs.length + zs.length < 2 ^ 62) {ty : Nat} {cc : Array Bool}
    (k : ∀ w' s' cs', Hp w0 w' (cs' ++ F) → TS C el s' (xs ++ zs) cs' → K s' w') : blt Pg R .append ⟨[T, T]⟩ ty cc ⟨[s, s2]⟩ K w :=
  append_h hT (H.split hS) hs (RdL.mono hsrc fun c hc => (hS.2 c).1 (hs2 c hc)) all_sc hsize hnm fun w' s' cs' h1 h2 => k w' s' cs' h1 (by
    unfold TS; rw [List.length_append, all_app]; exact h2)
/-- append(s, x). -/
theorem app1_t (hT : ElT T el C.sz bts z) (H : Hp w0 w L) (hs : TS C el s xs cs) (hS : Split L cs F) (hv : v.cells = ⟨C.enc x⟩) (hsz1 : C.sz ≤ 2 ^ 24) (hsize : (2 * (xs.length + 1) + 1000) * bts ≤ 2 ^ 48) (hnm : xs.length + 1 < 2 ^ 62) {ty : Nat} {cc : Array Bool}
    (k : ∀ w' s' cs', Hp w0 w' (cs' ++ F) → TS C el s' (xs ++ [x]) cs' → K s' w') : valV Pg R (Instr.buildSlice T 1 ⟨[(0, v)]⟩) (fun a => blt Pg R .append ⟨[T, T]⟩ ty cc ⟨[s, a]⟩ K) w := by
  refine lit1_t hT H hv hsz1 fun w1 s1 cs1 H1 h1 => ?_
  refine append_t (F := cs1 ++ F) (cs := cs) hT H1 hs hS.app h1.tr (by intro c hc; simp [hc]) (by simpa using hsize) (by simpa using hnm) fun w2 s3 cs3 H2 h3 => ?_
  exact k w2 s3 cs3 (H2.to fun f => by simp only [List.map_append, List.sum_append]; omega) h3
/-- s[:hi] of an own slice. -/
theorem slTo_t {hi : Nat} (h : TS C el s xs cs) (hh : hi ≤ xs.length) : ∃ s', slS C.sz s none (some (I (hi : Int))) = some s' ∧ TS C el s' (xs.take hi) cs := by
  rcases Nat.eq_zero_or_pos xs.length with h0 | h0
  · obtain rfl : hi = 0 := by omega
    rcases h with ⟨h1, ⟨a, rfl⟩, h3, h4⟩ | ⟨b, cap, rest, rfl, rfl, h3, h4, h5⟩
    · refine ⟨.slice a 0 0, ?_, .inl ⟨h1, ⟨a, rfl⟩, by simp, by simp [Cod.all]⟩⟩
      cases a <;> simp [slS, boundO]
    · refine ⟨.slice (some ⟨b, 0, none⟩) 0 cap, ?_, .inr ⟨b, cap, C.all xs ++ rest, ?_, by simp, by simp [Cod.all], by simp, ?_⟩⟩
      · simp [slS, boundO, add_mk]
      · simp [Cod.all]
      · rw [List.length_append, h3, h5, h0]; simp
  · obtain ⟨b, cap, rest, h1, rfl, h2, h3⟩ := h.chunk h0
    refine ⟨.slice (some ⟨b, 0, none⟩) hi cap, ?_, ?_⟩
    · have h9 : (hi : Int) ≤ cap := by omega
      simp [slS, boundO, add_mk, h9]
    · have := TS.mk (C := C) (el := el) (xs := xs.take hi) (b := b) (cap := cap) (n := hi) (rest := C.all (xs.drop hi) ++ rest) (by simp; omega) (by omega) (by
        rw [List.length_append, all_len, h3, List.length_drop, ← Nat.add_mul]; congr 1; omega)
      rw [← List.append_assoc, ← all_app, List.take_append_drop] at this
      rw [h1]; exact this
/-- Any part of a slice, to be read. -/
theorem slR_t {lo hi : Nat} (hz : 0 < C.sz) (h : TR C w0 cs s xs) (h1 : lo ≤ hi) (h2 : hi ≤ xs.length) : ∃ s', slS C.sz s (some (I (lo : Int))) (some (I (hi : Int))) = some s' ∧ TR C w0 cs s' ((xs.drop lo).take (hi - lo)) := by
  have hl : ((xs.drop lo).take (hi - lo)).length = hi - lo := by simp; omega
  have hy : C.all ((xs.drop lo).take (hi - lo)) = ((C.all xs).drop (lo * C.sz)).take ((hi - lo) * C.sz) := by rw [← all_take, ← all_drop]
  have hlh : lo * C.sz + (hi - lo) * C.sz ≤ xs.length * C.sz := by rw [← Nat.add_mul]; exact Nat.mul_le_mul_right _ (by omega)
  have hsl : ∀ (a : Option Addr) (n c : Nat), xs.length ≤ c → slS C.sz (.slice a n c) (some (I (lo : Int))) (some (I (hi : Int))) = some (.slice (if c = lo then a else a.map (·.add (lo * C.sz))) (hi - lo) (c - lo)) := by
    intro a n c hc
    have e1 : (hi : Int) ≤ (c : Int) := by omega
    have e2 : (lo : Int) ≤ (hi : Int) := by omega
    simp [slS, boundO, e1, e2]
  rcases h with (⟨c, rfl, h0, h4⟩ | ⟨a, c, rfl, hc, hca⟩) | ⟨b, o, c, e, l, rfl, hc, hm, hle, hys⟩
  · have h00 : xs.length = 0 := by
      rcases Nat.mul_eq_zero.1 h0 with h | h
      · exact h
      · omega
    obtain rfl : hi = 0 := by omega
    obtain rfl : lo = 0 := by omega
    refine ⟨.slice none 0 c, ?_, .inl (.inl ⟨c, by simp, by simp, by simp [Cod.all]⟩)⟩
    by_cases hc0 : c = 0 <;> simp [slS, boundO]
  · refine ⟨_, hsl _ _ _ hc, .inl (.inr ?_)⟩
    rw [hl, hy]
    by_cases hcl : c = lo
    · refine ⟨a, c - lo, by rw [if_pos hcl], by omega, ?_⟩
      have : hi - lo = 0 := by omega
      rw [this]; simp [cellsAt]
    · refine ⟨a.add (lo * C.sz), c - lo, by rw [if_neg hcl]; rfl, by omega, ?_⟩
      obtain ⟨g1, g2⟩ := (cellsAt_spec _ _ _).1 hca
      refine (cellsAt_spec _ _ _).2 ⟨by simp; omega, fun j hj => ?_⟩
      have := g2 (lo * C.sz + j) (by omega)
      rw [Nat.zero_add] at this
      rw [add_add, Nat.zero_add, this]
      simp [hj]
  · refine ⟨_, hsl _ _ _ hc, ?_⟩
    by_cases hcl : c = lo
    · have h00 : hi - lo = 0 := by omega
      rw [if_pos hcl]
      refine .inl (.inr ⟨_, c - lo, by rw [hl], by omega, ?_⟩)
      rw [hl, hy, h00]; simp [cellsAt]
    · refine .inr ⟨b, o + lo * C.sz, c - lo, e, l, by rw [if_neg hcl, hl]; simp [add_mk], by omega, hm, by rw [hl]; omega, ?_⟩
      rw [hl, hy, hys, ← List.drop_drop, List.drop_take, List.take_take]
      congr 1; omega
theorem slS_none {sz : Nat} {x : Value} {hi : Option Value} : slS sz x none hi = slS sz x (some (I 0)) hi := by
  unfold slS; split
  · split <;> simp [boundO]
  · rfl
/-- s[:hi], to be read. -/
theorem slRto_t {hi : Nat} (hz : 0 < C.sz) (h : TR C w0 cs s xs) (h2 : hi ≤ xs.length) : ∃ s', slS C.sz s none (some (I (hi : Int))) = some s' ∧ TR C w0 cs s' (xs.take hi) := by
  obtain ⟨s', h3, h4⟩ := slR_t (lo := 0) hz h (Nat.zero_le _) h2
  exact ⟨s', by rw [slS_none]; exact h3, by simpa using h4⟩
/-- Another code with the same cells. -/
theorem TR.recode {β : Type} {D : Cod β} {ys : List β} (h : TR C w0 cs s xs) (h1 : D.sz = C.sz) (h2 : ys.length = xs.length) (h3 : D.all ys = C.all xs) : TR D w0 cs s ys := by
  unfold TR; rw [h1, h2, h3]; exact h
/-- Slices' headers as elements. -/
structure Sh where
  a : Option Addr
  n : Nat
  c : Nat
def Sh.val (h : Sh) : Value := .slice h.a h.n h.c
def cS : Cod Sh := ⟨1, fun h => [h.val], fun _ => rfl, by intro a c hc; simp at hc; subst hc; rfl⟩
theorem TR.sh (h : TR C w0 cs s xs) : ∃ k : Sh, s = k.val := by
  rcases h with (⟨c, rfl, _⟩ | ⟨a, c, rfl, _⟩) | ⟨b, o, c, e, l, rfl, _⟩ <;> exact ⟨⟨_, _, _⟩, rfl⟩
theorem TS.sh (h : TS C el s xs cs) : ∃ k : Sh, s = k.val := (h.tr (w0 := default)).sh
/-- A slice of slices, to be read. -/
def NR {β : Type} (D : Cod β) (w0 : World) (cs : List Chunk) (s : Value) (xss : List (List β)) : Prop :=
  ∃ hs : List Sh, TR cS w0 cs s hs ∧ hs.length = xss.length ∧ ∀ (i : Nat) (h : Sh) (ys : List β), hs[i]? = some h → xss[i]? = some ys → TR D w0 cs h.val ys
/-- A slice of slices of one's own. -/
structure NS {β : Type} (D : Cod β) (el el2 : Nat) (s : Value) (xss : List (List β)) (cs : List Chunk) (css : List (List Chunk)) (hs : List Sh) : Prop where
  top : TS cS el s hs cs
  hl : hs.length = xss.length
  cl : css.length = xss.length
  sub : ∀ (i : Nat) (h : Sh) (ys : List β) (c : List Chunk), hs[i]? = some h → xss[i]? = some ys → css[i]? = some c → TS D el2 h.val ys c
theorem flatten_split {γ : Type} : ∀ {css : List (List γ)} {i : Nat} {c : List γ}, css[i]? = some c → css.flatten = (css.take i).flatten ++ (c ++ (css.drop (i + 1)).flatten)
  | [], i, c, h => by simp at h
  | a :: css, 0, c, h => by simp at h; subst h; simp
  | a :: css, i + 1, c, h => by
    simp only [List.getElem?_cons_succ] at h
    simp [flatten_split h]
theorem flatten_set {γ : Type} : ∀ {css : List (List γ)} {i : Nat} {c c' : List γ}, css[i]? = some c → (css.set i c').flatten = (css.take i).flatten ++ (c' ++ (css.drop (i + 1)).flatten)
  | [], i, c, c', h => by simp at h
  | a :: css, 0, c, c', h => by simp
  | a :: css, i + 1, c, c', h => by
    simp only [List.getElem?_cons_succ] at h
    simp [flatten_set (c' := c') h]
theorem NS.nr {β : Type} {D : Cod β} {el el2 : Nat} {xss : List (List β)} {css : List (List Chunk)} {hs : List Sh} (h : NS D el el2 s xss cs css hs) : NR D w0 (cs ++ css.flatten) s xss := by
  refine ⟨hs, h.top.tr.mono (by intro c hc; simp [hc]), h.hl, fun i k ys e1 e2 => ?_⟩
  have hi : i < css.length := by have := (List.getElem?_eq_some_iff.1 e2).1; rw [h.cl]; exact this
  obtain ⟨c, hc⟩ : ∃ c, css[i]? = some c := ⟨_, List.getElem?_eq_getElem hi⟩
  refine (h.sub i k ys c e1 e2 hc).tr.mono fun x hx => ?_
  rw [flatten_split hc]; simp [hx]
theorem NS.set {β : Type} {D : Cod β} {el el2 : Nat} {xss : List (List β)} {css : List (List Chunk)} {hs : List Sh} {cs' : List Chunk} (h : NS D el el2 s xss cs css hs) {i : Nat} {k : Sh} {ys : List β} {c : List Chunk} (hi : i < xss.length) (ht : TS cS el s (hs.set i k) cs') (hk : TS D el2 k.val ys c) :
    NS D el el2 s (xss.set i ys) cs' (css.set i c) (hs.set i k) := by
  refine ⟨ht, by simp [h.hl], by simp [h.cl], fun j k' ys' c' e1 e2 e3 => ?_⟩
  by_cases hj : i = j
  · subst hj
    rw [List.getElem?_set_self (by rw [h.hl]; exact hi)] at e1
    rw [List.getElem?_set_self hi] at e2
    rw [List.getElem?_set_self (by rw [h.cl]; exact hi)] at e3
    injection e1 with e1; injection e2 with e2; injection e3 with e3
    subst e1; subst e2; subst e3; exact hk
  · rw [List.getElem?_set_ne hj] at e1 e2 e3
    exact h.sub j k' ys' c' e1 e2 e3
theorem NS.empty {β : Type} {D : Cod β} {el el2 n : Nat} (h : TS cS el s (List.replicate n ⟨none, 0, 0⟩) cs) : NS D el el2 s (List.replicate n []) cs (List.replicate n []) (List.replicate n ⟨none, 0, 0⟩) := by
  refine ⟨h, by simp, by simp, fun i k ys c e1 e2 e3 => ?_⟩
  have h1 := List.eq_of_mem_replicate (List.mem_of_getElem? e1)
  have h2 := List.eq_of_mem_replicate (List.mem_of_getElem? e2)
  have h3 := List.eq_of_mem_replicate (List.mem_of_getElem? e3)
  subst h1; subst h2; subst h3; exact TS.nil
end
/-! ### steps whose side conditions are found by search -/
section
variable {w w' w0 : World} {L L' F A cs : List Chunk} {b o i n : Nat} {t : TypeId} {T T' : Tag} {l l' ys : List Value} {K : VK} {R : ER} {c : Chunk}
theorem has (h : Has L b T l := by repeat (first | exact Has.here | apply Has.cons | apply Has.app)) : Has L b T l := h
theorem updd (h : Upd L b T l T' l' L' := by repeat (first | exact Upd.here | apply Upd.cons | apply Upd.app)) : Upd L b T l T' l' L' := h
theorem spl (h : Split L cs F := by repeat (first | exact Split.here1 | exact Split.here | exact Split.nil | apply Split.cons | apply Split.app)) : Split L cs F := h
theorem csub (h : ∀ c ∈ cs, c ∈ L := by intro c hc; first | exact hc | (simp [tag_lit, hc]; done) | (obtain rfl := List.mem_singleton.1 hc; repeat (first | exact List.mem_cons_self | apply List.mem_cons_of_mem | apply List.mem_append_right); done) | (simp [tag_lit, m1 c hc]; done) | (simp [tag_lit, m2 c hc]; done) | (simp [tag_lit, m3 c hc]; done) | fail) : ∀ c ∈ cs, c ∈ L := h
theorem Hp.re (H : Hp w0 w L) (h : ∀ f : Chunk → Nat, (L'.map f).sum ≤ (L.map f).sum := by intro f; simp only [tag_lit, I, U8, U64, ptr, List.set_cons_zero, List.set_cons_succ, List.eraseIdx_cons_zero, List.eraseIdx_cons_succ, List.map_append, List.map_cons, List.map_nil, List.sum_append, List.sum_cons, List.sum_nil]; omega) : Hp w0 w L' := H.to h
theorem ld_a {v : Value} (k : K v w) (H : Hp w0 w L := by assumption) (hm : Has L b (.t t) l := by exact has) (hv : l[o]? = some v := by with_unfolding_all rfl) : ld1 (.pointer (some ⟨b, o, none⟩)) K w := ld_m H hm hv k
theorem ldA_a (k : K (.agg ⟨l⟩) w) (H : Hp w0 w L := by assumption) (hm : Has L b (.t t) l := by exact has) (hn : l.length = n := by with_unfolding_all rfl) : ldN n (.pointer (some ⟨b, 0, none⟩)) K w := ldA_m H hm hn k
theorem ldS_a {v : Value} {ws : List World} (k : K v w) (H : Hp w0 w L := by assumption) (hm : Has L b (.t t) l := by exact has) (hv : l[o]? = some v := by with_unfolding_all rfl) (hs : ∀ x ∈ ws, x.cell? ⟨b, o, none⟩ = some v := by intro x hx; simp only [List.mem_cons, List.not_mem_nil, or_false] at hx; rcases hx with rfl | rfl | rfl <;> exact Hp.cellM (by assumption) has (by with_unfolding_all rfl)) : ld1S ws (.pointer (some ⟨b, o, none⟩)) K w := ldS_m H hm hv hs k
theorem ldNS_a {ws : List World} (k : K (.agg ⟨l⟩) w) (H : Hp w0 w L := by assumption) (hm : Has L b (.t t) l := by exact has) (hn : l.length = n := by with_unfolding_all rfl) (hs : ∀ x ∈ ws, cellsAt x ⟨b, 0, none⟩ 0 n = some l := by intro x hx; simp only [List.mem_cons, List.not_mem_nil, or_false] at hx; rcases hx with rfl | rfl | rfl <;> exact Hp.cellsM (by assumption) has (by with_unfolding_all rfl)) : ldNS ws n (.pointer (some ⟨b, 0, none⟩)) K w := ldNS_m H hm hn hs k
theorem rd1_s {v : Value} {G : WP} (g : G w) (H : Hp w0 w L := by assumption) (hm : Has L b (.t t) l := by exact has) (hv : l[o]? = some v := by with_unfolding_all rfl) : rd1 (.pointer (some ⟨b, o, none⟩)) v G w := rd1_m H hm hv g
theorem rdA_s {G : WP} (g : G w) (H : Hp w0 w L := by assumption) (hm : Has L b (.t t) l := by exact has) (hn : l.length = n := by with_unfolding_all rfl) : rdN n (.pointer (some ⟨b, 0, none⟩)) (.agg ⟨l⟩) G w := rdA_m H hm hn g
theorem drew_a {F : WP} (g : ∀ w', Hp w0 w' L → F w') (H : Hp w0 w L := by assumption) : drewV F w := drew_k H g
theorem st_a {v : Value} (k : ∀ w', Hp w0 w' L' → K undef w') (H : Hp w0 w L := by assumption) (hl : l.set o v = l' := by first | (simp only [List.set_cons_zero, List.set_cons_succ]; done) | (simp only [List.set_cons_zero, List.set_cons_succ]; rfl) | with_unfolding_all rfl) (hu : Upd L b (.t t) l (.t t) l' L' := by exact updd) (ho : o < l.length := by simp) (hv : scalar v = true := by first | with_unfolding_all rfl | assumption) :
    st1 (.pointer (some ⟨b, o, none⟩)) v K w := by subst hl; exact st_m H hu ho hv k
theorem stA_a {vs : List Value} (k : ∀ w', Hp w0 w' L' → K undef w') (H : Hp w0 w L := by assumption) (hu : Upd L b (.t t) l (.t t) vs L' := by exact updd) (hn : vs.length = n := by with_unfolding_all rfl) (hl : l.length = n := by with_unfolding_all rfl) (hs : ∀ c ∈ vs, scalar c = true := by intro c hc; simp only [List.mem_cons, List.not_mem_nil, or_false] at hc; rcases hc with rfl | rfl | rfl | rfl | rfl | rfl | rfl | rfl | rfl | rfl | rfl | rfl | rfl | rfl <;> first | with_unfolding_all rfl | assumption) :
    stN n (.pointer (some ⟨b, 0, none⟩)) (.agg ⟨vs⟩) K w := stA_m H hu hn hl hs k
theorem lss_a {k : IntKind} {x y : Int} (g : K (.bool true) w) (h : x < y := by omega) : pv (bin .lss (.int k x) (.int k y)) K w := lss_y h g
theorem lss_b {k : IntKind} {x y : Int} (g : K (.bool false) w) (h : ¬ (x < y) := by omega) : pv (bin .lss (.int k x) (.int k y)) K w := lss_n h g
theorem leq_a {k : IntKind} {x y : Int} (g : K (.bool true) w) (h : x ≤ y := by omega) : pv (bin .leq (.int k x) (.int k y)) K w := leq_y h g
theorem leq_b {k : IntKind} {x y : Int} (g : K (.bool false) w) (h : ¬ (x ≤ y) := by omega) : pv (bin .leq (.int k x) (.int k y)) K w := leq_n h g
theorem gtr_a {k : IntKind} {x y : Int} (g : K (.bool true) w) (h : y < x := by omega) : pv (bin .gtr (.int k x) (.int k y)) K w := gtr_y h g
theorem gtr_b {k : IntKind} {x y : Int} (g : K (.bool false) w) (h : ¬ (y < x) := by omega) : pv (bin .gtr (.int k x) (.int k y)) K w := gtr_n h g
theorem geq_a {k : IntKind} {x y : Int} (g : K (.bool true) w) (h : y ≤ x := by omega) : pv (bin .geq (.int k x) (.int k y)) K w := geq_y h g
theorem geq_b {k : IntKind} {x y : Int} (g : K (.bool false) w) (h : ¬ (y ≤ x) := by omega) : pv (bin .geq (.int k x) (.int k y)) K w := geq_n h g
theorem eql_a {k : IntKind} {x y : Int} (g : K (.bool true) w) (h : x = y := by omega) : pv (bin .eql (.int k x) (.int k y)) K w := eql_y h g
theorem eql_b {k : IntKind} {x y : Int} (g : K (.bool false) w) (h : ¬ (x = y) := by omega) : pv (bin .eql (.int k x) (.int k y)) K w := eql_n h g
theorem neq_a {k : IntKind} {x y : Int} (g : K (.bool true) w) (h : x ≠ y := by omega) : pv (bin .neq (.int k x) (.int k y)) K w := neq_y h g
theorem neq_b {k : IntKind} {x y : Int} (g : K (.bool false) w) (h : ¬ (x ≠ y) := by omega) : pv (bin .neq (.int k x) (.int k y)) K w := neq_n h g
theorem add_a {x y : Int} (g : K (I (x + y)) w) (h1 : -9223372036854775808 ≤ x + y := by omega) (h2 : x + y ≤ 9223372036854775807 := by omega) : pv (bin .add (I x) (I y)) K w := add_k h1 h2 rfl g
theorem sub_a {x y : Int} (g : K (I (x - y)) w) (h1 : -9223372036854775808 ≤ x - y := by omega) (h2 : x - y ≤ 9223372036854775807 := by omega) : pv (bin .sub (I x) (I y)) K w := sub_k h1 h2 rfl g
end
section
variable {α : Type} {C : Cod α} {xs : List α} {x : α} {w w0 : World} {L cs : List Chunk} {s v : Value} {K : VK} {el i : Nat}
theorem lenT_a (g : K (I (xs.length : Int)) w) (h : TR C w0 cs s xs := by assumption) : pv (lenS s) K w := pv_of (lenS_tr h) g
theorem lenO_a (g : K (I (xs.length : Int)) w) (h : TS C el s xs cs := by assumption) : pv (lenS s) K w := pv_of (lenS_ts h) g
theorem ixT_a {k : IntKind} (g : K v w) (h : TR C w0 cs s xs := by assumption) (H : Hp w0 w L := by assumption) (hs : ∀ c ∈ cs, c ∈ L := by exact csub) (hx : xs[i]? = some x := by assumption) (h1 : C.sz = 1 := by with_unfolding_all rfl) (hv : C.enc x = [v] := by with_unfolding_all rfl) : pv (ixS 1 s (.int k (i : Int))) (fun p => ld1 p K) w := ix1_t h H hs hx h1 hv g
theorem ixO_a {k : IntKind} (g : K v w) (h : TS C el s xs cs := by assumption) (H : Hp w0 w L := by assumption) (hs : ∀ c ∈ cs, c ∈ L := by exact csub) (hx : xs[i]? = some x := by assumption) (h1 : C.sz = 1 := by with_unfolding_all rfl) (hv : C.enc x = [v] := by with_unfolding_all rfl) : pv (ixS 1 s (.int k (i : Int))) (fun p => ld1 p K) w := ix1_t (TS.tr h) H hs hx h1 hv g
end
/-- The rules of rewriting, in one. -/
theorem W0 : (∀ (v : Value) (K : VK), pv (some v) K = K v) ∧ (∀ a : Addr, nilO (.pointer (some a)) = some (.pointer (some a))) ∧ (∀ n b o : Nat, faO n (.pointer (some ⟨b, o, none⟩)) = some (.pointer (some ⟨b, o + n, none⟩))) ∧
    (∀ (F : VK → WP) (K : VK), gd (.bool true) true F K = F K) ∧ (∀ (F : VK → WP) (K : VK), gd (.bool false) true F K = K undef) ∧ (∀ (F : VK → WP) (K : VK), gd (.bool false) false F K = F K) ∧ (∀ (F : VK → WP) (K : VK), gd (.bool true) false F K = K undef) ∧
    (∀ A B : WP, cnd (.bool true) A B = A) ∧ (∀ A B : WP, cnd (.bool false) A B = B) ∧ (∀ a b : Value, pickO (.bool true) a b = some a) ∧ (∀ a b : Value, pickO (.bool false) a b = some b) ∧ (∀ b : Bool, unO .not (.bool b) = some (.bool !b)) ∧
    (∀ (a : Value) (l : List Value), extO 0 (.tuple ⟨a :: l⟩) = some a) ∧ (∀ (a b : Value) (l : List Value), extO 1 (.tuple ⟨a :: b :: l⟩) = some b) ∧ (∀ (a b c : Value) (l : List Value), extO 2 (.tuple ⟨a :: b :: c :: l⟩) = some c) ∧ (∀ (a b c d : Value) (l : List Value), extO 3 (.tuple ⟨a :: b :: c :: d :: l⟩) = some d) ∧ (∀ (a b c d e : Value) (l : List Value), extO 4 (.tuple ⟨a :: b :: c :: d :: e :: l⟩) = some e) ∧
    (∀ (a : Option Addr) (n c : Nat), lenS (.slice a n c) = some (.int .i64 n)) ∧ (eqNilP (.pointer none) = some (.bool true)) ∧ (∀ a : Addr, eqNilP (.pointer (some a)) = some (.bool false)) ∧ (neNilP (.pointer none) = some (.bool false)) ∧ (∀ a : Addr, neNilP (.pointer (some a)) = some (.bool true)) ∧
    (∀ n c : Nat, eqNilS (.slice none n c) = some (.bool true)) ∧ (∀ (a : Addr) (n c : Nat), eqNilS (.slice (some a) n c) = some (.bool false)) ∧ (∀ n c : Nat, neNilS (.slice none n c) = some (.bool false)) ∧ (∀ (a : Addr) (n c : Nat), neNilS (.slice (some a) n c) = some (.bool true)) ∧
    (∀ (R : ER) (K : VK) (v : Value) (w : World), retK R K (.returned v) w = K v w) ∧ (∀ F : World → WP, mem F = fun w => F w w) ∧ (∀ (k k' : IntKind) (n : Int), cvI k (.int k' n) = some (.int k (k.wrap n))) ∧
    (∀ n : Nat, 0 + n = n) ∧ (∀ n : Nat, n + 0 = n) ∧ (∀ n : Nat, n * 1 = n) ∧ ((!true) = false) ∧ ((!false) = true) ∧ (decide True = true) ∧ (decide False = false) :=
  ⟨pv_some, nilO_ptr, faO_mk, @gd_yes, @gd_no, @gd_yes', @gd_no', @cnd_true, @cnd_false, pick_true, pick_false, not_bool, ext0, ext1, ext2, ext3, ext4, lenS_mk, eqNil_none, eqNil_some, neNil_none, neNil_some, eqNilS_none, eqNilS_some, neNilS_none, neNilS_some,
    fun R K v w => ret_k, fun _ => rfl, cvI_mk, Nat.zero_add, Nat.add_zero, Nat.mul_one, rfl, rfl, rfl, rfl⟩
/-! ### literals -/
theorem BL0 : (∀ z : List Value, buildL z [] = some z) ∧ (∀ (z : List Value) (o s : Nat) (v : Value) (r : List (Nat × Nat × Value)), buildL z ((o, s, v) :: r) = if v.cells.size ≠ s ∨ o + s > z.length then none else buildL (z.take o ++ v.cells.toList ++ z.drop (o + s)) r) ∧
    (∀ (k : IntKind) (n : Int), (Value.int k n).cells = ⟨[.int k n]⟩) ∧ (∀ b, (Value.bool b).cells = ⟨[.bool b]⟩) ∧ (∀ p, (Value.pointer p).cells = ⟨[.pointer p]⟩) ∧ (∀ p, (Value.map p).cells = ⟨[.map p]⟩) ∧ (∀ p, (Value.string p).cells = ⟨[.string p]⟩) ∧ (∀ a n c, (Value.slice a n c).cells = ⟨[.slice a n c]⟩) ∧ (∀ h : Sh, h.val.cells = ⟨[h.val]⟩) ∧ (∀ f a b, (Value.func f a b).cells = ⟨[.func f a b]⟩) ∧ (∀ t v, (Value.iface t v).cells = ⟨[.iface t v]⟩) ∧
    (∀ l : List Value, (Value.agg ⟨l⟩).cells = ⟨l⟩) ∧ (∀ l : List Value, (Array.mk l).size = l.length) ∧ (∀ l : List Value, (Array.mk l).toList = l) ∧ (∀ (a : Value) (l : List Value), (a :: l).length = l.length + 1) ∧ (([] : List Value).length = 0) ∧
    (∀ (a : Value) (l : List Value) (n : Nat), (a :: l).take (n + 1) = a :: l.take n) ∧ (∀ l : List Value, l.take 0 = []) ∧ (∀ (a : Value) (l : List Value) (n : Nat), (a :: l).drop (n + 1) = l.drop n) ∧ (∀ l : List Value, l.drop 0 = l) ∧ (∀ (a : Value) (l m : List Value), (a :: l) ++ m = a :: (l ++ m)) ∧ (∀ l : List Value, [] ++ l = l) ∧ (∀ n : Nat, 0 + n = n) ∧ (∀ n : Nat, n + 0 = n) :=
  ⟨fun _ => rfl, fun _ _ _ _ _ => rfl, fun _ _ => rfl, fun _ => rfl, fun _ => rfl, fun _ => rfl, fun _ => rfl, fun _ _ _ => rfl, fun _ => rfl, fun _ _ _ => rfl, fun _ _ => rfl, fun _ => rfl, fun _ => rfl, fun _ => rfl, fun _ _ => rfl, rfl, fun _ _ _ => rfl, fun _ => rfl, fun _ _ _ => rfl, fun _ => rfl, fun _ _ _ => rfl, fun _ => rfl, Nat.zero_add, Nat.add_zero⟩
theorem bld_a {z l : List Value} {parts : List (Nat × Nat × Value)} {K : VK} {w : World} (k : K (.agg ⟨l⟩) w) (h : buildL z parts = some l := by first | (simp only [BL0, Nat.reduceAdd, Nat.reduceLT, ne_eq, not_true_eq_false, false_or, gt_iff_lt, if_false]; done) | (simp only [BL0, Nat.reduceAdd, Nat.reduceLT, ne_eq, not_true_eq_false, false_or, gt_iff_lt, if_false]; rfl) | with_unfolding_all rfl) : pv (bldO z parts) K w := by
  rw [show bldO z parts = some (.agg ⟨l⟩) from by unfold bldO; rw [h], pv_some]; exact k
theorem min_a {x y : Int} {K : VK} {w : World} (k : K (I (min x y)) w) : pv (min2I (I x) (I y)) K w := by
  have : min2I (I x) (I y) = some (I (min x y)) := by
    simp only [min2I]; congr 2; omega
  rw [this, pv_some]; exact k
theorem max_a {x y : Int} {K : VK} {w : World} (k : K (I (max x y)) w) : pv (max2I (I x) (I y)) K w := by
  have : max2I (I x) (I y) = some (I (max x y)) := by
    simp only [max2I]; congr 2; omega
  rw [this, pv_some]; exact k
/-! ### loops -/
theorem loop1 {l : Nat → Value → WP} {b : (Value → WP) → Value → WP} (hs : ∀ n x0, l (n + 1) x0 = b (l n) x0) (Inv : Nat → Value → World → Prop)
    (step : ∀ m k x0 w, Inv m x0 w → (∀ m' y0 w', m' < m → Inv m' y0 w' → k y0 w') → b k x0 w) {m : Nat} {x0 : Value} {w : World} (h : Inv m x0 w) : exN (fun n => l n x0) w := by
  have key : ∀ n m x0 w, m < n → Inv m x0 w → l n x0 w := by
    intro n
    induction n with
    | zero => intro m x0 w h; omega
    | succ n ih =>
      intro m x0 w h hi
      rw [hs]
      exact step m (l n) x0 w hi fun m' y0 w' hm hi' => ih m' y0 w' (by omega) hi'
  exact ⟨m + 1, key _ m x0 w (by omega) h⟩
theorem loop2 {l : Nat → Value → Value → WP} {b : (Value → Value → WP) → Value → Value → WP} (hs : ∀ n x0 x1, l (n + 1) x0 x1 = b (l n) x0 x1) (Inv : Nat → Value → Value → World → Prop)
    (step : ∀ m k x0 x1 w, Inv m x0 x1 w → (∀ m' y0 y1 w', m' < m → Inv m' y0 y1 w' → k y0 y1 w') → b k x0 x1 w) {m : Nat} {x0 x1 : Value} {w : World} (h : Inv m x0 x1 w) : exN (fun n => l n x0 x1) w := by
  have key : ∀ n m x0 x1 w, m < n → Inv m x0 x1 w → l n x0 x1 w := by
    intro n
    induction n with
    | zero => intro m x0 x1 w h; omega
    | succ n ih =>
      intro m x0 x1 w h hi
      rw [hs]
      exact step m (l n) x0 x1 w hi fun m' y0 y1 w' hm hi' => ih m' y0 y1 w' (by omega) hi'
  exact ⟨m + 1, key _ m x0 x1 w (by omega) h⟩
theorem loop3 {l : Nat → Value → Value → Value → WP} {b : (Value → Value → Value → WP) → Value → Value → Value → WP} (hs : ∀ n x0 x1 x2, l (n + 1) x0 x1 x2 = b (l n) x0 x1 x2) (Inv : Nat → Value → Value → Value → World → Prop)
    (step : ∀ m k x0 x1 x2 w, Inv m x0 x1 x2 w → (∀ m' y0 y1 y2 w', m' < m → Inv m' y0 y1 y2 w' → k y0 y1 y2 w') → b k x0 x1 x2 w) {m : Nat} {x0 x1 x2 : Value} {w : World} (h : Inv m x0 x1 x2 w) : exN (fun n => l n x0 x1 x2) w := by
  have key : ∀ n m x0 x1 x2 w, m < n → Inv m x0 x1 x2 w → l n x0 x1 x2 w := by
    intro n
    induction n with
    | zero => intro m x0 x1 x2 w h; omega
    | succ n ih =>
      intro m x0 x1 x2 w h hi
      rw [hs]
      exact step m (l n) x0 x1 x2 w hi fun m' y0 y1 y2 w' hm hi' => ih m' y0 y1 y2 w' (by omega) hi'
  exact ⟨m + 1, key _ m x0 x1 x2 w (by omega) h⟩
theorem loop4 {l : Nat → Value → Value → Value → Value → WP} {b : (Value → Value → Value → Value → WP) → Value → Value → Value → Value → WP} (hs : ∀ n x0 x1 x2 x3, l (n + 1) x0 x1 x2 x3 = b (l n) x0 x1 x2 x3) (Inv : Nat → Value → Value → Value → Value → World → Prop)
    (step : ∀ m k x0 x1 x2 x3 w, Inv m x0 x1 x2 x3 w → (∀ m' y0 y1 y2 y3 w', m' < m → Inv m' y0 y1 y2 y3 w' → k y0 y1 y2 y3 w') → b k x0 x1 x2 x3 w) {m : Nat} {x0 x1 x2 x3 : Value} {w : World} (h : Inv m x0 x1 x2 x3 w) : exN (fun n => l n x0 x1 x2 x3) w := by
  have key : ∀ n m x0 x1 x2 x3 w, m < n → Inv m x0 x1 x2 x3 w → l n x0 x1 x2 x3 w := by
    intro n
    induction n with
    | zero => intro m x0 x1 x2 x3 w h; omega
    | succ n ih =>
      intro m x0 x1 x2 x3 w h hi
      rw [hs]
      exact step m (l n) x0 x1 x2 x3 w hi fun m' y0 y1 y2 y3 w' hm hi' => ih m' y0 y1 y2 y3 w' (by omega) hi'
  exact ⟨m + 1, key _ m x0 x1 x2 x3 w (by omega) h⟩
theorem loop5 {l : Nat → Value → Value → Value → Value → Value → WP} {b : (Value → Value → Value → Value → Value → WP) → Value → Value → Value → Value → Value → WP} (hs : ∀ n x0 x1 x2 x3 x4, l (n + 1) x0 x1 x2 x3 x4 = b (l n) x0 x1 x2 x3 x4) (Inv : Nat → Value → Value → Value → Value → Value → World → Prop)
    (step : ∀ m k x0 x1 x2 x3 x4 w, Inv m x0 x1 x2 x3 x4 w → (∀ m' y0 y1 y2 y3 y4 w', m' < m → Inv m' y0 y1 y2 y3 y4 w' → k y0 y1 y2 y3 y4 w') → b k x0 x1 x2 x3 x4 w) {m : Nat} {x0 x1 x2 x3 x4 : Value} {w : World} (h : Inv m x0 x1 x2 x3 x4 w) : exN (fun n => l n x0 x1 x2 x3 x4) w := by
  have key : ∀ n m x0 x1 x2 x3 x4 w, m < n → Inv m x0 x1 x2 x3 x4 w → l n x0 x1 x2 x3 x4 w := by
    intro n
    induction n with
    | zero => intro m x0 x1 x2 x3 x4 w h; omega
    | succ n ih =>
      intro m x0 x1 x2 x3 x4 w h hi
      rw [hs]
      exact step m (l n) x0 x1 x2 x3 x4 w hi fun m' y0 y1 y2 y3 y4 w' hm hi' => ih m' y0 y1 y2 y3 y4 w' (by omega) hi'
  exact ⟨m + 1, key _ m x0 x1 x2 x3 x4 w (by omega) h⟩
theorem loop6 {l : Nat → Value → Value → Value → Value → Value → Value → WP} {b : (Value → Value → Value → Value → Value → Value → WP) → Value → Value → Value → Value → Value → Value → WP} (hs : ∀ n x0 x1 x2 x3 x4 x5, l (n + 1) x0 x1 x2 x3 x4 x5 = b (l n) x0 x1 x2 x3 x4 x5) (Inv : Nat → Value → Value → Value → Value → Value → Value → World → Prop)
    (step : ∀ m k x0 x1 x2 x3 x4 x5 w, Inv m x0 x1 x2 x3 x4 x5 w → (∀ m' y0 y1 y2 y3 y4 y5 w', m' < m → Inv m' y0 y1 y2 y3 y4 y5 w' → k y0 y1 y2 y3 y4 y5 w') → b k x0 x1 x2 x3 x4 x5 w) {m : Nat} {x0 x1 x2 x3 x4 x5 : Value} {w : World} (h : Inv m x0 x1 x2 x3 x4 x5 w) : exN (fun n => l n x0 x1 x2 x3 x4 x5) w := by
  have key : ∀ n m x0 x1 x2 x3 x4 x5 w, m < n → Inv m x0 x1 x2 x3 x4 x5 w → l n x0 x1 x2 x3 x4 x5 w := by
    intro n
    induction n with
    | zero => intro m x0 x1 x2 x3 x4 x5 w h; omega
    | succ n ih =>
      intro m x0 x1 x2 x3 x4 x5 w h hi
      rw [hs]
      exact step m (l n) x0 x1 x2 x3 x4 x5 w hi fun m' y0 y1 y2 y3 y4 y5 w' hm hi' => ih m' y0 y1 y2 y3 y4 y5 w' (by omega) hi'
  exact ⟨m + 1, key _ m x0 x1 x2 x3 x4 x5 w (by omega) h⟩
theorem loop7 {l : Nat → Value → Value → Value → Value → Value → Value → Value → WP} {b : (Value → Value → Value → Value → Value → Value → Value → WP) → Value → Value → Value → Value → Value → Value → Value → WP} (hs : ∀ n x0 x1 x2 x3 x4 x5 x6, l (n + 1) x0 x1 x2 x3 x4 x5 x6 = b (l n) x0 x1 x2 x3 x4 x5 x6) (Inv : Nat → Value → Value → Value → Value → Value → Value → Value → World → Prop)
    (step : ∀ m k x0 x1 x2 x3 x4 x5 x6 w, Inv m x0 x1 x2 x3 x4 x5 x6 w → (∀ m' y0 y1 y2 y3 y4 y5 y6 w', m' < m → Inv m' y0 y1 y2 y3 y4 y5 y6 w' → k y0 y1 y2 y3 y4 y5 y6 w') → b k x0 x1 x2 x3 x4 x5 x6 w) {m : Nat} {x0 x1 x2 x3 x4 x5 x6 : Value} {w : World} (h : Inv m x0 x1 x2 x3 x4 x5 x6 w) : exN (fun n => l n x0 x1 x2 x3 x4 x5 x6) w := by
  have key : ∀ n m x0 x1 x2 x3 x4 x5 x6 w, m < n → Inv m x0 x1 x2 x3 x4 x5 x6 w → l n x0 x1 x2 x3 x4 x5 x6 w := by
    intro n
    induction n with
    | zero => intro m x0 x1 x2 x3 x4 x5 x6 w h; omega
    | succ n ih =>
      intro m x0 x1 x2 x3 x4 x5 x6 w h hi
      rw [hs]
      exact step m (l n) x0 x1 x2 x3 x4 x5 x6 w hi fun m' y0 y1 y2 y3 y4 y5 y6 w' hm hi' => ih m' y0 y1 y2 y3 y4 y5 y6 w' (by omega) hi'
  exact ⟨m + 1, key _ m x0 x1 x2 x3 x4 x5 x6 w (by omega) h⟩
theorem loop8 {l : Nat → Value → Value → Value → Value → Value → Value → Value → Value → WP} {b : (Value → Value → Value → Value → Value → Value → Value → Value → WP) → Value → Value → Value → Value → Value → Value → Value → Value → WP} (hs : ∀ n x0 x1 x2 x3 x4 x5 x6 x7, l (n + 1) x0 x1 x2 x3 x4 x5 x6 x7 = b (l n) x0 x1 x2 x3 x4 x5 x6 x7) (Inv : Nat → Value → Value → Value → Value → Value → Value → Value → Value → World → Prop)
    (step : ∀ m k x0 x1 x2 x3 x4 x5 x6 x7 w, Inv m x0 x1 x2 x3 x4 x5 x6 x7 w → (∀ m' y0 y1 y2 y3 y4 y5 y6 y7 w', m' < m → Inv m' y0 y1 y2 y3 y4 y5 y6 y7 w' → k y0 y1 y2 y3 y4 y5 y6 y7 w') → b k x0 x1 x2 x3 x4 x5 x6 x7 w) {m : Nat} {x0 x1 x2 x3 x4 x5 x6 x7 : Value} {w : World} (h : Inv m x0 x1 x2 x3 x4 x5 x6 x7 w) : exN (fun n => l n x0 x1 x2 x3 x4 x5 x6 x7) w := by
  have key : ∀ n m x0 x1 x2 x3 x4 x5 x6 x7 w, m < n → Inv m x0 x1 x2 x3 x4 x5 x6 x7 w → l n x0 x1 x2 x3 x4 x5 x6 x7 w := by
    intro n
    induction n with
    | zero => intro m x0 x1 x2 x3 x4 x5 x6 x7 w h; omega
    | succ n ih =>
      intro m x0 x1 x2 x3 x4 x5 x6 x7 w h hi
      rw [hs]
      exact step m (l n) x0 x1 x2 x3 x4 x5 x6 x7 w hi fun m' y0 y1 y2 y3 y4 y5 y6 y7 w' hm hi' => ih m' y0 y1 y2 y3 y4 y5 y6 y7 w' (by omega) hi'
  exact ⟨m + 1, key _ m x0 x1 x2 x3 x4 x5 x6 x7 w (by omega) h⟩
theorem loop9 {l : Nat → Value → Value → Value → Value → Value → Value → Value → Value → Value → WP} {b : (Value → Value → Value → Value → Value → Value → Value → Value → Value → WP) → Value → Value → Value → Value → Value → Value → Value → Value → Value → WP} (hs : ∀ n x0 x1 x2 x3 x4 x5 x6 x7 x8, l (n + 1) x0 x1 x2 x3 x4 x5 x6 x7 x8 = b (l n) x0 x1 x2 x3 x4 x5 x6 x7 x8) (Inv : Nat → Value → Value → Value → Value → Value → Value → Value → Value → Value → World → Prop)
    (step : ∀ m k x0 x1 x2 x3 x4 x5 x6 x7 x8 w, Inv m x0 x1 x2 x3 x4 x5 x6 x7 x8 w → (∀ m' y0 y1 y2 y3 y4 y5 y6 y7 y8 w', m' < m → Inv m' y0 y1 y2 y3 y4 y5 y6 y7 y8 w' → k y0 y1 y2 y3 y4 y5 y6 y7 y8 w') → b k x0 x1 x2 x3 x4 x5 x6 x7 x8 w) {m : Nat} {x0 x1 x2 x3 x4 x5 x6 x7 x8 : Value} {w : World} (h : Inv m x0 x1 x2 x3 x4 x5 x6 x7 x8 w) : exN (fun n => l n x0 x1 x2 x3 x4 x5 x6 x7 x8) w := by
  have key : ∀ n m x0 x1 x2 x3 x4 x5 x6 x7 x8 w, m < n → Inv m x0 x1 x2 x3 x4 x5 x6 x7 x8 w → l n x0 x1 x2 x3 x4 x5 x6 x7 x8 w := by
    intro n
    induction n with
    | zero => intro m x0 x1 x2 x3 x4 x5 x6 x7 x8 w h; omega
    | succ n ih =>
      intro m x0 x1 x2 x3 x4 x5 x6 x7 x8 w h hi
      rw [hs]
      exact step m (l n) x0 x1 x2 x3 x4 x5 x6 x7 x8 w hi fun m' y0 y1 y2 y3 y4 y5 y6 y7 y8 w' hm hi' => ih m' y0 y1 y2 y3 y4 y5 y6 y7 y8 w' (by omega) hi'
  exact ⟨m + 1, key _ m x0 x1 x2 x3 x4 x5 x6 x7 x8 w (by omega) h⟩
theorem loop10 {l : Nat → Value → Value → Value → Value → Value → Value → Value → Value → Value → Value → WP} {b : (Value → Value → Value → Value → Value → Value → Value → Value → Value → Value → WP) → Value → Value → Value → Value → Value → Value → Value → Value → Value → Value → WP} (hs : ∀ n x0 x1 x2 x3 x4 x5 x6 x7 x8 x9, l (n + 1) x0 x1 x2 x3 x4 x5 x6 x7 x8 x9 = b (l n) x0 x1 x2 x3 x4 x5 x6 x7 x8 x9) (Inv : Nat → Value → Value → Value → Value → Value → Value → Value → Value → Value → Value → World → Prop)
    (step : ∀ m k x0 x1 x2 x3 x4 x5 x6 x7 x8 x9 w, Inv m x0 x1 x2 x3 x4 x5 x6 x7 x8 x9 w → (∀ m' y0 y1 y2 y3 y4 y5 y6 y7 y8 y9 w', m' < m → Inv m' y0 y1 y2 y3 y4 y5 y6 y7 y8 y9 w' → k y0 y1 y2 y3 y4 y5 y6 y7 y8 y9 w') → b k x0 x1 x2 x3 x4 x5 x6 x7 x8 x9 w) {m : Nat} {x0 x1 x2 x3 x4 x5 x6 x7 x8 x9 : Value} {w : World} (h : Inv m x0 x1 x2 x3 x4 x5 x6 x7 x8 x9 w) : exN (fun n => l n x0 x1 x2 x3 x4 x5 x6 x7 x8 x9) w := by
  have key : ∀ n m x0 x1 x2 x3 x4 x5 x6 x7 x8 x9 w, m < n → Inv m x0 x1 x2 x3 x4 x5 x6 x7 x8 x9 w → l n x0 x1 x2 x3 x4 x5 x6 x7 x8 x9 w := by
    intro n
    induction n with
    | zero => intro m x0 x1 x2 x3 x4 x5 x6 x7 x8 x9 w h; omega
    | succ n ih =>
      intro m x0 x1 x2 x3 x4 x5 x6 x7 x8 x9 w h hi
      rw [hs]
      exact step m (l n) x0 x1 x2 x3 x4 x5 x6 x7 x8 x9 w hi fun m' y0 y1 y2 y3 y4 y5 y6 y7 y8 y9 w' hm hi' => ih m' y0 y1 y2 y3 y4 y5 y6 y7 y8 y9 w' (by omega) hi'
  exact ⟨m + 1, key _ m x0 x1 x2 x3 x4 x5 x6 x7 x8 x9 w (by omega) h⟩
theorem loop11 {l : Nat → Value → Value → Value → Value → Value → Value → Value → Value → Value → Value → Value → WP} {b : (Value → Value → Value → Value → Value → Value → Value → Value → Value → Value → Value → WP) → Value → Value → Value → Value → Value → Value → Value → Value → Value → Value → Value → WP} (hs : ∀ n x0 x1 x2 x3 x4 x5 x6 x7 x8 x9 x10, l (n + 1) x0 x1 x2 x3 x4 x5 x6 x7 x8 x9 x10 = b (l n) x0 x1 x2 x3 x4 x5 x6 x7 x8 x9 x10) (Inv : Nat → Value → Value → Value → Value → Value → Value → Value → Value → Value → Value → Value → World → Prop)
    (step : ∀ m k x0 x1 x2 x3 x4 x5 x6 x7 x8 x9 x10 w, Inv m x0 x1 x2 x3 x4 x5 x6 x7 x8 x9 x10 w → (∀ m' y0 y1 y2 y3 y4 y5 y6 y7 y8 y9 y10 w', m' < m → Inv m' y0 y1 y2 y3 y4 y5 y6 y7 y8 y9 y10 w' → k y0 y1 y2 y3 y4 y5 y6 y7 y8 y9 y10 w') → b k x0 x1 x2 x3 x4 x5 x6 x7 x8 x9 x10 w) {m : Nat} {x0 x1 x2 x3 x4 x5 x6 x7 x8 x9 x10 : Value} {w : World} (h : Inv m x0 x1 x2 x3 x4 x5 x6 x7 x8 x9 x10 w) : exN (fun n => l n x0 x1 x2 x3 x4 x5 x6 x7 x8 x9 x10) w := by
  have key : ∀ n m x0 x1 x2 x3 x4 x5 x6 x7 x8 x9 x10 w, m < n → Inv m x0 x1 x2 x3 x4 x5 x6 x7 x8 x9 x10 w → l n x0 x1 x2 x3 x4 x5 x6 x7 x8 x9 x10 w := by
    intro n
    induction n with
    | zero => intro m x0 x1 x2 x3 x4 x5 x6 x7 x8 x9 x10 w h; omega
    | succ n ih =>
      intro m x0 x1 x2 x3 x4 x5 x6 x7 x8 x9 x10 w h hi
      rw [hs]
      exact step m (l n) x0 x1 x2 x3 x4 x5 x6 x7 x8 x9 x10 w hi fun m' y0 y1 y2 y3 y4 y5 y6 y7 y8 y9 y10 w' hm hi' => ih m' y0 y1 y2 y3 y4 y5 y6 y7 y8 y9 y10 w' (by omega) hi'
  exact ⟨m + 1, key _ m x0 x1 x2 x3 x4 x5 x6 x7 x8 x9 x10 w (by omega) h⟩
theorem loop12 {l : Nat → Value → Value → Value → Value → Value → Value → Value → Value → Value → Value → Value → Value → WP} {b : (Value → Value → Value → Value → Value → Value → Value → Value → Value → Value → Value → Value → WP) → Value → Value → Value → Value → Value → Value → Value → Value → Value → Value → Value → Value → WP} (hs : ∀ n x0 x1 x2 x3 x4 x5 x6 x7 x8 x9 x10 x11, l (n + 1) x0 x1 x2 x3 x4 x5 x6 x7 x8 x9 x10 x11 = b (l n) x0 x1 x2 x3 x4 x5 x6 x7 x8 x9 x10 x11) (Inv : Nat → Value → Value → Value → Value → Value → Value → Value → Value → Value → Value → Value → Value → World → Prop)
    (step : ∀ m k x0 x1 x2 x3 x4 x5 x6 x7 x8 x9 x10 x11 w, Inv m x0 x1 x2 x3 x4 x5 x6 x7 x8 x9 x10 x11 w → (∀ m' y0 y1 y2 y3 y4 y5 y6 y7 y8 y9 y10 y11 w', m' < m → Inv m' y0 y1 y2 y3 y4 y5 y6 y7 y8 y9 y10 y11 w' → k y0 y1 y2 y3 y4 y5 y6 y7 y8 y9 y10 y11 w') → b k x0 x1 x2 x3 x4 x5 x6 x7 x8 x9 x10 x11 w) {m : Nat} {x0 x1 x2 x3 x4 x5 x6 x7 x8 x9 x10 x11 : Value} {w : World} (h : Inv m x0 x1 x2 x3 x4 x5 x6 x7 x8 x9 x10 x11 w) : exN (fun n => l n x0 x1 x2 x3 x4 x5 x6 x7 x8 x9 x10 x11) w := by
  have key : ∀ n m x0 x1 x2 x3 x4 x5 x6 x7 x8 x9 x10 x11 w, m < n → Inv m x0 x1 x2 x3 x4 x5 x6 x7 x8 x9 x10 x11 w → l n x0 x1 x2 x3 x4 x5 x6 x7 x8 x9 x10 x11 w := by
    intro n
    induction n with
    | zero => intro m x0 x1 x2 x3 x4 x5 x6 x7 x8 x9 x10 x11 w h; omega
    | succ n ih =>
      intro m x0 x1 x2 x3 x4 x5 x6 x7 x8 x9 x10 x11 w h hi
      rw [hs]
      exact step m (l n) x0 x1 x2 x3 x4 x5 x6 x7 x8 x9 x10 x11 w hi fun m' y0 y1 y2 y3 y4 y5 y6 y7 y8 y9 y10 y11 w' hm hi' => ih m' y0 y1 y2 y3 y4 y5 y6 y7 y8 y9 y10 y11 w' (by omega) hi'
  exact ⟨m + 1, key _ m x0 x1 x2 x3 x4 x5 x6 x7 x8 x9 x10 x11 w (by omega) h⟩
end Go.Proofs.YthcekppbbanfeaaGreat.Den
