/- Packet filter: what the rows' arguments read as. Conditions: none. -/
import Derived.Test.YtmmbepdghpjgeaaFlM
import Derived.Test.YtmmbepdghpjgeaaOrow
set_option linter.unusedVariables false
set_option linter.unusedSimpArgs false
set_option maxRecDepth 8000
namespace Go.Proofs.Ytmmbepdghpjgeaa.Den
open Go Go.Joins Go.RowKit Go.ChangeShapes Go.WideShapes Go.ChangeAt Go.Deep
theorem und3 : Try.prog.underlying 3 = some (.int .i64) := by kernel_rfl
theorem und4 : Try.prog.underlying 4 = some .bool := by kernel_rfl
theorem undU : Try.prog.underlying 23 = some (.int .u32) := by kernel_rfl
theorem undPat : Try.prog.underlying 25 = some (.struct (structOf 25)) := by kernel_rfl
theorem undRng : Try.prog.underlying 27 = some (.struct (structOf 27)) := by kernel_rfl
theorem undRul : Try.prog.underlying 29 = some (.struct (structOf 29)) := by kernel_rfl
theorem undPkt : Try.prog.underlying 45 = some (.struct (structOf 45)) := by kernel_rfl
theorem undRuls : Try.prog.underlying 43 = some (.slice 29) := by kernel_rfl
theorem undPkts : Try.prog.underlying 53 = some (.slice 45) := by kernel_rfl
noncomputable def fieldQ (t : TypeId) (j : Nat) : Option (TypeId × Nat × Nat) := ((structOf t)[j]?).map fun f => (f.type, f.offset, Try.prog.cellsOf f.type)
theorem u32_wf {i : Int} (h : (Lit.int .u32 i).wf = true) : 0 ≤ i ∧ i < 4294967296 := by
  simp [Lit.wf, IntKind.min, IntKind.max, IntKind.signed, IntKind.bits] at h; omega
section
variable {H : Type} {enc : TypeId × Value → H} {w : World} {base : Nat} {spare : Nat → Bool} {held : Bool}
theorem part_open {t : TypeId} {fuel : Nat} {cs : List Value} {x : DataW H × List MemPlace} (ht : Try.prog.underlying t = some (.struct (structOf t))) (h : DataW.trod enc Try.prog w base spare held fuel t cs = some x) {j ft off sz : Nat} (hq : fieldQ t j = some (ft, off, sz)) :
    ∃ n y, DataW.trod enc Try.prog w base spare held n ft ((cs.drop off).take sz) = some y := by
  obtain ⟨ys, n', hn', hy, hlen, hyl, hf⟩ := DataW.trod_struct ht h
  unfold fieldQ at hq
  cases hj : (structOf t)[j]? with
  | none => simp [hj] at hq
  | some f =>
    simp only [hj, Option.map_some, Option.some.injEq, Prod.mk.injEq] at hq
    obtain ⟨rfl, rfl, rfl⟩ := hq
    have hjl : j < (structOf t).size := (Array.getElem?_eq_some_iff.1 hj).1
    have h1 := hf j f hj
    have hys : ys[j]? = some (ys[j]'(by omega)) := List.getElem?_eq_getElem (by omega)
    exact ⟨n', _, h1.trans hys⟩
theorem pat_open {fuel : Nat} {a b c : Value} {x : DataW H × List MemPlace} (h : DataW.trod enc Try.prog w base spare held fuel 25 [a, b, c] = some x) : ∃ p : Pat, [a, b, c] = p.enc ∧ p.Ok := by
  obtain ⟨n0, y0, t0⟩ := part_open undPat h (j := 0) (ft := 23) (off := 0) (sz := 1) (by kernel_rfl)
  obtain ⟨n1, y1, t1⟩ := part_open undPat h (j := 1) (ft := 3) (off := 1) (sz := 1) (by kernel_rfl)
  obtain ⟨n2, y2, t2⟩ := part_open undPat h (j := 2) (ft := 4) (off := 2) (sz := 1) (by kernel_rfl)
  obtain ⟨i, rfl, hw⟩ := int_cell undU t0
  obtain ⟨k, rfl, _⟩ := int_cell und3 t1
  obtain ⟨v, rfl⟩ := bool_cell und4 t2
  exact ⟨⟨i, k, v⟩, rfl, u32_wf hw⟩
theorem rng_open {fuel : Nat} {a b : Value} {x : DataW H × List MemPlace} (h : DataW.trod enc Try.prog w base spare held fuel 27 [a, b] = some x) : ∃ p : Rng, [a, b] = p.enc := by
  obtain ⟨n0, y0, t0⟩ := part_open undRng h (j := 0) (ft := 3) (off := 0) (sz := 1) (by kernel_rfl)
  obtain ⟨n1, y1, t1⟩ := part_open undRng h (j := 1) (ft := 3) (off := 1) (sz := 1) (by kernel_rfl)
  obtain ⟨i, rfl, _⟩ := int_cell und3 t0
  obtain ⟨k, rfl, _⟩ := int_cell und3 t1
  exact ⟨⟨i, k⟩, rfl⟩
theorem rul_open {fuel : Nat} {cs : List Value} {x : DataW H × List MemPlace} (h : DataW.trod enc Try.prog w base spare held fuel 29 cs = some x) (hl : cs.length = 16) : ∃ r : Rul, cs = r.enc ∧ r.Ok := by
  match cs, hl with
  | [c0, c1, c2, c3, c4, c5, c6, c7, c8, c9, c10, c11, c12, c13, c14, c15], _ =>
    obtain ⟨n0, y0, t0⟩ := part_open undRul h (j := 0) (ft := 3) (off := 0) (sz := 1) (by kernel_rfl)
    obtain ⟨n1, y1, t1⟩ := part_open undRul h (j := 1) (ft := 4) (off := 1) (sz := 1) (by kernel_rfl)
    obtain ⟨n2, y2, t2⟩ := part_open undRul h (j := 2) (ft := 4) (off := 2) (sz := 1) (by kernel_rfl)
    obtain ⟨n3, y3, t3⟩ := part_open undRul h (j := 3) (ft := 3) (off := 3) (sz := 1) (by kernel_rfl)
    obtain ⟨n4, y4, t4⟩ := part_open undRul h (j := 4) (ft := 3) (off := 4) (sz := 1) (by kernel_rfl)
    obtain ⟨n5, y5, t5⟩ := part_open undRul h (j := 5) (ft := 3) (off := 5) (sz := 1) (by kernel_rfl)
    obtain ⟨n6, y6, t6⟩ := part_open undRul h (j := 6) (ft := 25) (off := 6) (sz := 3) (by kernel_rfl)
    obtain ⟨n7, y7, t7⟩ := part_open undRul h (j := 7) (ft := 25) (off := 9) (sz := 3) (by kernel_rfl)
    obtain ⟨n8, y8, t8⟩ := part_open undRul h (j := 8) (ft := 27) (off := 12) (sz := 2) (by kernel_rfl)
    obtain ⟨n9, y9, t9⟩ := part_open undRul h (j := 9) (ft := 27) (off := 14) (sz := 2) (by kernel_rfl)
    obtain ⟨a0, rfl, _⟩ := int_cell und3 t0
    obtain ⟨a1, rfl⟩ := bool_cell und4 t1
    obtain ⟨a2, rfl⟩ := bool_cell und4 t2
    obtain ⟨a3, rfl, _⟩ := int_cell und3 t3
    obtain ⟨a4, rfl, _⟩ := int_cell und3 t4
    obtain ⟨a5, rfl, _⟩ := int_cell und3 t5
    obtain ⟨p6, e6, o6⟩ := pat_open t6
    obtain ⟨p7, e7, o7⟩ := pat_open t7
    obtain ⟨p8, e8⟩ := rng_open t8
    obtain ⟨p9, e9⟩ := rng_open t9
    simp only [Pat.enc, Rng.enc, List.cons.injEq, and_true] at e6 e7 e8 e9
    obtain ⟨rfl, rfl, rfl⟩ := e6
    obtain ⟨rfl, rfl, rfl⟩ := e7
    obtain ⟨rfl, rfl⟩ := e8
    obtain ⟨rfl, rfl⟩ := e9
    exact ⟨⟨a0, a1, a2, a3, a4, a5, p6, p7, p8, p9⟩, rfl, o6, o7⟩
theorem pkt_open {fuel : Nat} {cs : List Value} {x : DataW H × List MemPlace} (h : DataW.trod enc Try.prog w base spare held fuel 45 cs = some x) (hl : cs.length = 8) : ∃ r : Pkt, cs = r.enc ∧ r.Ok := by
  match cs, hl with
  | [c0, c1, c2, c3, c4, c5, c6, c7], _ =>
    obtain ⟨n0, y0, t0⟩ := part_open undPkt h (j := 0) (ft := 3) (off := 0) (sz := 1) (by kernel_rfl)
    obtain ⟨n1, y1, t1⟩ := part_open undPkt h (j := 1) (ft := 3) (off := 1) (sz := 1) (by kernel_rfl)
    obtain ⟨n2, y2, t2⟩ := part_open undPkt h (j := 2) (ft := 23) (off := 2) (sz := 1) (by kernel_rfl)
    obtain ⟨n3, y3, t3⟩ := part_open undPkt h (j := 3) (ft := 23) (off := 3) (sz := 1) (by kernel_rfl)
    obtain ⟨n4, y4, t4⟩ := part_open undPkt h (j := 4) (ft := 3) (off := 4) (sz := 1) (by kernel_rfl)
    obtain ⟨n5, y5, t5⟩ := part_open undPkt h (j := 5) (ft := 3) (off := 5) (sz := 1) (by kernel_rfl)
    obtain ⟨n6, y6, t6⟩ := part_open undPkt h (j := 6) (ft := 3) (off := 6) (sz := 1) (by kernel_rfl)
    obtain ⟨n7, y7, t7⟩ := part_open undPkt h (j := 7) (ft := 4) (off := 7) (sz := 1) (by kernel_rfl)
    obtain ⟨a0, rfl, _⟩ := int_cell und3 t0
    obtain ⟨a1, rfl, _⟩ := int_cell und3 t1
    obtain ⟨a2, rfl, w2⟩ := int_cell undU t2
    obtain ⟨a3, rfl, w3⟩ := int_cell undU t3
    obtain ⟨a4, rfl, _⟩ := int_cell und3 t4
    obtain ⟨a5, rfl, _⟩ := int_cell und3 t5
    obtain ⟨a6, rfl, _⟩ := int_cell und3 t6
    obtain ⟨a7, rfl⟩ := bool_cell und4 t7
    exact ⟨⟨a0, a1, a2, a3, a4, a5, a6, a7⟩, rfl, u32_wf w2, u32_wf w3⟩
theorem rul_arg {b0 : Nat} {v : Value} {d : DataW H} {p : List MemPlace} (hv : Value.okWide Try.prog w .any b0 29 v) (h : DataW.Trod enc Try.prog w base spare held 29 v d p) : ∃ r : Rul, v = .agg ⟨r.enc⟩ ∧ r.Ok := by
  obtain ⟨cs, rfl, hsz⟩ := okWide_struct undRul hv
  obtain ⟨l⟩ := cs
  obtain ⟨fuel, hf⟩ := h
  have hl : l.length = 16 := hsz.trans (by kernel_rfl)
  obtain ⟨r, h1, h2⟩ := rul_open hf hl
  exact ⟨r, by show Value.agg ⟨l⟩ = _; rw [show l = r.enc from h1], h2⟩
theorem pkt_arg {b0 : Nat} {v : Value} {d : DataW H} {p : List MemPlace} (hv : Value.okWide Try.prog w .any b0 45 v) (h : DataW.Trod enc Try.prog w base spare held 45 v d p) : ∃ r : Pkt, v = .agg ⟨r.enc⟩ ∧ r.Ok := by
  obtain ⟨cs, rfl, hsz⟩ := okWide_struct undPkt hv
  obtain ⟨l⟩ := cs
  obtain ⟨fuel, hf⟩ := h
  have hl : l.length = 8 := hsz.trans (by kernel_rfl)
  obtain ⟨r, h1, h2⟩ := pkt_open hf hl
  exact ⟨r, by show Value.agg ⟨l⟩ = _; rw [show l = r.enc from h1], h2⟩
theorem ruls_arg {b0 : Nat} {v : Value} {d : DataW H} {p : List MemPlace} (hv : Value.okWide Try.prog w .any b0 43 v) (h : DataW.Trod enc Try.prog w base spare held 43 v d p) :
    ∃ xs, TR cRul w [] v xs ∧ (∀ a ∈ xs, a.Ok) ∧ xs.length < 2 ^ 63 := by
  obtain ⟨a, l, c, rfl⟩ := okWide_slice undRuls hv
  obtain ⟨fuel, hf⟩ := h
  obtain ⟨s, xs, hs, hr, hb, hn⟩ := slice_open (C := cRul) (p := Rul.Ok) undRuls (by kernel_rfl) (fun fuel cs x h hl => rul_open h hl) hf
  simp [Value.cells] at hs
  rw [← hs] at hr
  exact ⟨xs, hr, hb, hn⟩
theorem pkts_arg {b0 : Nat} {v : Value} {d : DataW H} {p : List MemPlace} (hv : Value.okWide Try.prog w .any b0 53 v) (h : DataW.Trod enc Try.prog w base spare held 53 v d p) :
    ∃ xs, TR cPkt w [] v xs ∧ (∀ a ∈ xs, a.Ok) ∧ xs.length < 2 ^ 63 := by
  obtain ⟨a, l, c, rfl⟩ := okWide_slice undPkts hv
  obtain ⟨fuel, hf⟩ := h
  obtain ⟨s, xs, hs, hr, hb, hn⟩ := slice_open (C := cPkt) (p := Pkt.Ok) undPkts (by kernel_rfl) (fun fuel cs x h hl => pkt_open h hl) hf
  simp [Value.cells] at hs
  rw [← hs] at hr
  exact ⟨xs, hr, hb, hn⟩
end
end Go.Proofs.Ytmmbepdghpjgeaa.Den
