/- Message queue: what the rows' arguments read as. Conditions: none. -/
import Derived.Test.YthcekppbbanfeaaGreatOrowW
import Derived.Test.YthcekppbbanfeaaGreatOrow
import Derived.Test.YthcekppbbanfeaaGreatMqAc
set_option linter.unusedVariables false
set_option linter.unusedSimpArgs false
set_option maxRecDepth 8000
namespace Go.Proofs.YthcekppbbanfeaaGreat.Den
open Go Go.Joins Go.RowKit Go.ChangeShapes Go.WideShapes Go.ChangeAt Go.Deep
theorem und3 : Tryz.prog.underlying 3 = some (.int .i64) := by kernel_rfl
theorem undI6 : Tryz.prog.underlying 2 = some (.int .i64) := by kernel_rfl
theorem und4 : Tryz.prog.underlying 4 = some .bool := by kernel_rfl
theorem und5 : Tryz.prog.underlying 5 = some (.int .u8) := by kernel_rfl
theorem undBs : Tryz.prog.underlying 32 = some (.slice 5) := by kernel_rfl
section
variable {H : Type} {enc : TypeId × Value → H} {w : World} {base : Nat} {spare : Nat → Bool} {held : Bool}
theorem bytes_open {fuel : Nat} {cs : List Value} {x : DataW H × List MemPlace} (h : DataW.trod enc Tryz.prog w base spare held fuel 32 cs = some x) :
    ∃ s xs, cs = [s] ∧ TR cB w [] s xs ∧ (∀ a ∈ xs, 0 ≤ a ∧ a ≤ 255) ∧ xs.length < 2 ^ 63 :=
  slice_open (C := cB) (p := fun a => 0 ≤ a ∧ a ≤ 255) undBs (by kernel_rfl) (fun fuel cs x h hl => by
    match cs, hl with
    | [v], _ => obtain ⟨i, rfl, hw⟩ := int_cell und5 h; exact ⟨i, rfl, by have := u8_wf hw; omega⟩) h
theorem bytes_arg {b0 : Nat} {v : Value} {d : DataW H} {p : List MemPlace} (hv : Value.okWide Tryz.prog w .any b0 32 v) (h : DataW.Trod enc Tryz.prog w base spare held 32 v d p) :
    ∃ xs, TR cB w [] v xs ∧ (∀ a ∈ xs, 0 ≤ a ∧ a ≤ 255) ∧ xs.length < 2 ^ 63 := by
  obtain ⟨a, l, c, rfl⟩ := okWide_slice undBs hv
  obtain ⟨fuel, hf⟩ := h
  obtain ⟨s, xs, hs, hr, hb, hn⟩ := bytes_open hf
  simp [Value.cells] at hs
  rw [← hs] at hr
  exact ⟨xs, hr, hb, hn⟩
theorem tr_fits {α : Type} {C : Cod α} {w : World} {cs : List Value} {xs : List α} (hz : 0 < C.sz)
    (h : (cs = [.slice none 0 0] ∧ xs = []) ∨ ∃ a cap, cs = [.slice (some a) xs.length cap] ∧ xs.length ≤ cap ∧ ∀ (i : Nat) x, xs[i]? = some x → ∀ j, j < C.sz → w.cell? (a.add (i * C.sz + j)) = (C.enc x)[j]?) :
    ∃ s, cs = [s] ∧ TR C w [] s xs := by
  rcases h with ⟨rfl, rfl⟩ | ⟨a, cap, rfl, hcap, hc⟩
  · exact ⟨_, rfl, TR.nil⟩
  · refine ⟨_, rfl, .inl (.inr ⟨a, cap, rfl, hcap, (cellsAt_spec _ _ _).2 ⟨all_len, fun j hj => ?_⟩⟩)⟩
    rw [Nat.zero_add]
    have hd : j / C.sz < xs.length := (Nat.div_lt_iff_lt_mul hz).2 hj
    have e : j / C.sz * C.sz + j % C.sz = j := by rw [Nat.mul_comm]; exact Nat.div_add_mod _ _
    have hm : j % C.sz < C.sz := Nat.mod_lt _ hz
    obtain ⟨y, hy⟩ : ∃ y, xs[j / C.sz]? = some y := ⟨_, List.getElem?_eq_getElem hd⟩
    have := hc _ y hy _ hm
    rw [e] at this
    rw [this]
    have := all_get (C := C) hy hm
    rw [e] at this
    exact this.symm
theorem bytes_fits {fuel : Nat} {cs : List Value} {x : DataW H × List MemPlace} (h : DataW.trod enc Tryz.prog w base spare held fuel 32 cs = some x) (hf : Fits Tryz.prog 32 x.1) :
    ∃ s xs, cs = [s] ∧ TR cB w [] s xs ∧ (∀ a ∈ xs, 0 ≤ a ∧ a ≤ 255) ∧ xs.length ≤ 2 ^ 47 - 4096 := by
  obtain ⟨xs, hp, hl, _, h1⟩ := slice_fits (en := cB.enc) (sz := cB.sz) (p := fun n => 0 ≤ n ∧ n ≤ 255) undBs (by kernel_rfl) (fun fuel cs x h hl _ => by
    match cs, hl with
    | [v], _ =>
      obtain ⟨i, rfl, hw⟩ := int_cell und5 h
      exact ⟨i, rfl, by have := u8_wf hw; omega⟩) hf h
  obtain ⟨s, rfl, hr⟩ := tr_fits (C := cB) (by decide) h1
  refine ⟨s, xs, rfl, hr, hp, ?_⟩
  rw [show Tryz.prog.bytesOf 5 = 1 from by kernel_rfl] at hl
  have : reachBytes ≤ 2 ^ 47 - 4096 := by decide
  omega
noncomputable def fieldQ (t : TypeId) (j : Nat) : Option (TypeId × Nat × Nat) := ((structOf t)[j]?).map fun f => (f.type, f.offset, Tryz.prog.cellsOf f.type)
/-- A part of a struct, with what is known of its size. -/
theorem part_fits {t : TypeId} {fuel : Nat} {cs : List Value} {x : DataW H × List MemPlace} (ht : Tryz.prog.underlying t = some (.struct (structOf t))) (hw : Fits Tryz.prog t x.1) (h : DataW.trod enc Tryz.prog w base spare held fuel t cs = some x) {j ft off sz : Nat} (hq : fieldQ t j = some (ft, off, sz)) :
    ∃ n y, DataW.trod enc Tryz.prog w base spare held n ft ((cs.drop off).take sz) = some y ∧ Fits Tryz.prog ft y.1 := by
  obtain ⟨ys, n', hn', hy, hlen, hyl, hf⟩ := DataW.trod_struct ht h
  unfold fieldQ at hq
  cases hj : (structOf t)[j]? with
  | none => simp [hj] at hq
  | some f =>
    simp only [hj, Option.map_some, Option.some.injEq, Prod.mk.injEq] at hq
    obtain ⟨rfl, rfl, rfl⟩ := hq
    have hjl : j < (structOf t).size := (Array.getElem?_eq_some_iff.1 hj).1
    have h1 := hf j f hj
    have hys : ys[j]? = some (ys[j]'(by omega)) := List.getElem?_eq_getElem (by omega)
    refine ⟨n', _, h1.trans hys, fun n hn => hw n ?_⟩
    rw [hy]
    simp only [DataW.weights, ht]
    exact DataW.weights_mem_each (j := j) (by simp only [List.getElem?_map, Array.getElem?_toList, hj, Option.map_some]) (by rw [List.getElem?_map, hys]; rfl) n hn
theorem undAct : Tryz.prog.underlying 36 = some (.struct (structOf 36)) := by kernel_rfl
theorem undEvt : Tryz.prog.underlying 34 = some (.struct (structOf 34)) := by kernel_rfl
theorem evt_open {fuel : Nat} {a b c d e : Value} {x : DataW H × List MemPlace} (hw : Fits Tryz.prog 34 x.1) (h : DataW.trod enc Tryz.prog w base spare held fuel 34 [a, b, c, d, e] = some x) :
    ∃ k1 k2 k3 k4 k5 : Int, a = I k1 ∧ b = I k2 ∧ c = I k3 ∧ d = I k4 ∧ e = I k5 := by
  obtain ⟨n0, y0, t0, _⟩ := part_fits undEvt hw h (j := 0) (ft := 3) (off := 0) (sz := 1) (by kernel_rfl)
  obtain ⟨n1, y1, t1, _⟩ := part_fits undEvt hw h (j := 1) (ft := 3) (off := 1) (sz := 1) (by kernel_rfl)
  obtain ⟨n2, y2, t2, _⟩ := part_fits undEvt hw h (j := 2) (ft := 3) (off := 2) (sz := 1) (by kernel_rfl)
  obtain ⟨n3, y3, t3, _⟩ := part_fits undEvt hw h (j := 3) (ft := 3) (off := 3) (sz := 1) (by kernel_rfl)
  obtain ⟨n4, y4, t4, _⟩ := part_fits undEvt hw h (j := 4) (ft := 2) (off := 4) (sz := 1) (by kernel_rfl)
  obtain ⟨k0, rfl, _⟩ := int_cell und3 t0
  obtain ⟨k1, rfl, _⟩ := int_cell und3 t1
  obtain ⟨k2, rfl, _⟩ := int_cell und3 t2
  obtain ⟨k3, rfl, _⟩ := int_cell und3 t3
  obtain ⟨k4, rfl, _⟩ := int_cell undI6 t4
  exact ⟨k0, k1, k2, k3, k4, rfl, rfl, rfl, rfl, rfl⟩
/-- An act that came in: its bytes are old memory. -/
def AcOK (w : World) (a : Ac) : Prop := TR cB w [] a.sh.val a.data ∧ (∀ x ∈ a.data, 0 ≤ x ∧ x ≤ 255) ∧ a.data.length ≤ 2 ^ 47 - 4096 ∧ 0 ≤ a.kind ∧ a.kind < 256
theorem act_fits {fuel : Nat} {cs : List Value} {x : DataW H × List MemPlace} (h : DataW.trod enc Tryz.prog w base spare held fuel 36 cs = some x) (hl : cs.length = 11) (hf : Fits Tryz.prog 36 x.1) : ∃ a : Ac, cs = a.enc ∧ AcOK w a := by
  match cs, hl with
  | [c0, c1, c2, c3, c4, c5, c6, c7, c8, c9, c10], _ =>
    obtain ⟨n0, y0, t0, f0⟩ := part_fits undAct hf h (j := 0) (ft := 5) (off := 0) (sz := 1) (by kernel_rfl)
    obtain ⟨n1, y1, t1, f1⟩ := part_fits undAct hf h (j := 1) (ft := 3) (off := 1) (sz := 1) (by kernel_rfl)
    obtain ⟨n2, y2, t2, f2⟩ := part_fits undAct hf h (j := 2) (ft := 3) (off := 2) (sz := 1) (by kernel_rfl)
    obtain ⟨n3, y3, t3, f3⟩ := part_fits undAct hf h (j := 3) (ft := 32) (off := 3) (sz := 1) (by kernel_rfl)
    obtain ⟨n4, y4, t4, f4⟩ := part_fits undAct hf h (j := 4) (ft := 4) (off := 4) (sz := 1) (by kernel_rfl)
    obtain ⟨n5, y5, t5, f5⟩ := part_fits undAct hf h (j := 5) (ft := 2) (off := 5) (sz := 1) (by kernel_rfl)
    obtain ⟨n6, y6, t6, f6⟩ := part_fits undAct hf h (j := 6) (ft := 34) (off := 6) (sz := 5) (by kernel_rfl)
    obtain ⟨a0, rfl, hw0⟩ := int_cell und5 t0
    obtain ⟨a1, rfl, _⟩ := int_cell und3 t1
    obtain ⟨a2, rfl, _⟩ := int_cell und3 t2
    obtain ⟨s, xs, hs, hr, hb, hx⟩ := bytes_fits t3 f3
    injection hs with hs _; subst hs
    obtain ⟨dh, rfl⟩ := hr.sh
    obtain ⟨a4, rfl⟩ := bool_cell und4 t4
    obtain ⟨a5, rfl, _⟩ := int_cell undI6 t5
    obtain ⟨k1, k2, k3, k4, k5, rfl, rfl, rfl, rfl, rfl⟩ := evt_open f6 t6
    exact ⟨⟨a0, a1, a2, dh, xs, a4, a5, k1, k2, k3, k4, k5⟩, rfl, hr, hb, hx, by have := u8_wf hw0; omega⟩
end
end Go.Proofs.YthcekppbbanfeaaGreat.Den
