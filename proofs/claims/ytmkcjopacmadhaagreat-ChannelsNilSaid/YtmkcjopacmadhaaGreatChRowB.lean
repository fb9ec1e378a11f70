/- Channels: calls that came in. Conditions: none. -/
import Derived.Test.YtmkcjopacmadhaaGreatOrowW
import Derived.Test.YtmkcjopacmadhaaGreatChRow
import Derived.Test.YtmkcjopacmadhaaGreatChOpA
set_option linter.unusedVariables false
set_option linter.unusedSimpArgs false
namespace Go.Proofs.YtmkcjopacmadhaaGreat.Den
open Go Go.Joins Go.RowKit Go.ChangeShapes Go.WideShapes Go.ChangeAt Go.Deep
theorem undI6 : Tryz.prog.underlying 2 = some (.int .i64) := by kernel_rfl
theorem undOpp : Tryz.prog.underlying 36 = some (.struct (structOf 36)) := by kernel_rfl
theorem undOps : Tryz.prog.underlying 22 = some (.slice 36) := by kernel_rfl
theorem tr_fits {α : Type} {C : Cod α} {w : World} {cs : List Value} {xs : List α} (hz : 0 < C.sz)
    (h : (cs = [.slice none 0 0] ∧ xs = []) ∨ ∃ a cap, cs = [.slice (some a) xs.length cap] ∧ xs.length ≤ cap ∧ ∀ (i : Nat) x, xs[i]? = some x → ∀ j, j < C.sz → w.cell? (a.add (i * C.sz + j)) = (C.enc x)[j]?) :
    ∃ s, cs = [s] ∧ TR C w [] s xs := by
  rcases h with ⟨rfl, rfl⟩ | ⟨a, cap, rfl, hcap, hc⟩
  · exact ⟨_, rfl, TR.nil⟩
  · refine ⟨_, rfl, .inl (.inr ⟨a, cap, rfl, hcap, (cellsAt_spec _ _ _).2 ⟨all_len, fun j hj => ?_⟩⟩)⟩
    rw [Nat.zero_add]
    have hd : j / C.sz < xs.length := (Nat.div_lt_iff_lt_mul hz).2 hj
    have e : j / C.sz * C.sz + j % C.sz = j := by rw [Nat.mul_comm]; exact Nat.div_add_mod _ _
    have hm : j % C.sz < C.sz := Nat.mod_lt _ hz
    obtain ⟨y, hy⟩ : ∃ y, xs[j / C.sz]? = some y := ⟨_, List.getElem?_eq_getElem hd⟩
    have := hc _ y hy _ hm
    rw [e] at this
    rw [this]
    have := all_get (C := C) hy hm
    rw [e] at this
    exact this.symm
section
variable {H : Type} {enc : TypeId × Value → H} {w : World} {base : Nat} {spare : Nat → Bool} {held : Bool}
theorem bytes_fits {fuel : Nat} {cs : List Value} {x : DataW H × List MemPlace} (h : DataW.trod enc Tryz.prog w base spare held fuel 30 cs = some x) (hf : Fits Tryz.prog 30 x.1) :
    ∃ s xs, cs = [s] ∧ TR cB w [] s xs ∧ (∀ a ∈ xs, 0 ≤ a ∧ a ≤ 255) ∧ xs.length ≤ 2 ^ 47 - 4096 := by
  obtain ⟨xs, hp, hl, _, h1⟩ := slice_fits (en := cB.enc) (sz := cB.sz) (p := fun n => 0 ≤ n ∧ n ≤ 255) undBs (by kernel_rfl) (fun fuel cs x h hl _ => by
    match cs, hl with
    | [v], _ =>
      obtain ⟨i, rfl, hw⟩ := int_cell und5 h
      exact ⟨i, rfl, by have := u8_wf hw; omega⟩) hf h
  obtain ⟨s, rfl, hr⟩ := tr_fits (C := cB) (by decide) h1
  refine ⟨s, xs, rfl, hr, hp, ?_⟩
  rw [show Tryz.prog.bytesOf 5 = 1 from by kernel_rfl] at hl
  have : reachBytes ≤ 2 ^ 47 - 4096 := by decide
  omega
def OpOk (w : World) (o : OpA) : Prop := (TR cB w [] o.dh.val o.data ∧ o.data.length ≤ 2 ^ 47 - 4096) ∧ -9223372036854775808 ≤ o.n ∧ o.n ≤ 9223372036854775807
theorem ops_fits {fuel : Nat} {cs : List Value} {x : DataW H × List MemPlace} (h : DataW.trod enc Tryz.prog w base spare held fuel 22 cs = some x) (hf : Fits Tryz.prog 22 x.1) :
    ∃ s ops, cs = [s] ∧ TR cOp w [] s ops ∧ (∀ o ∈ ops, OpOk w o) := by
  obtain ⟨xs, hp, hl, _, h1⟩ := slice_fits (en := cOp.enc) (sz := cOp.sz) (p := OpOk w) undOps (by kernel_rfl) (fun fuel cs x h hl hf => by
    have hc := struct_fits undOpp (by kernel_rfl) (hl.trans (by kernel_rfl)) hf h
    match cs, hl with
    | [v0, v1, v2, v3, v4, v5, v6, v7, v8], _ =>
      obtain ⟨f0, g0, e0⟩ := field_of (t := 36) (j := 0) (ft := 3) (by kernel_rfl)
      obtain ⟨_, _, _, c0, t0, _⟩ := hc 0 f0 g0
      rw [e0] at t0
      obtain ⟨f1, g1, e1⟩ := field_of (t := 36) (j := 1) (ft := 3) (by kernel_rfl)
      obtain ⟨_, _, _, c1, t1, _⟩ := hc 1 f1 g1
      rw [e1] at t1
      obtain ⟨f2, g2, e2⟩ := field_of (t := 36) (j := 2) (ft := 3) (by kernel_rfl)
      obtain ⟨_, _, _, c2, t2, _⟩ := hc 2 f2 g2
      rw [e2] at t2
      obtain ⟨f3, g3, e3⟩ := field_of (t := 36) (j := 3) (ft := 3) (by kernel_rfl)
      obtain ⟨_, _, _, c3, t3, _⟩ := hc 3 f3 g3
      rw [e3] at t3
      obtain ⟨f4, g4, e4⟩ := field_of (t := 36) (j := 4) (ft := 3) (by kernel_rfl)
      obtain ⟨_, _, _, c4, t4, _⟩ := hc 4 f4 g4
      rw [e4] at t4
      obtain ⟨f5, g5, e5⟩ := field_of (t := 36) (j := 5) (ft := 3) (by kernel_rfl)
      obtain ⟨_, _, _, c5, t5, _⟩ := hc 5 f5 g5
      rw [e5] at t5
      obtain ⟨f6, g6, e6⟩ := field_of (t := 36) (j := 6) (ft := 2) (by kernel_rfl)
      obtain ⟨_, _, _, c6, t6, _⟩ := hc 6 f6 g6
      obtain ⟨f7, g7, e7⟩ := field_of (t := 36) (j := 7) (ft := 30) (by kernel_rfl)
      obtain ⟨_, _, _, c7, t7, w7⟩ := hc 7 f7 g7
      obtain ⟨f8, g8, e8⟩ := field_of (t := 36) (j := 8) (ft := 4) (by kernel_rfl)
      obtain ⟨_, _, _, c8, t8, _⟩ := hc 8 f8 g8
      rw [e6] at t6; rw [e7] at t7 w7; rw [e8] at t8
      simp at c0 c1 c2 c3 c4 c5 c6 c7 c8
      subst c0 c1 c2 c3 c4 c5 c6 c7 c8
      obtain ⟨a0, rfl, hw0⟩ := int_cell und3 t0
      obtain ⟨a1, rfl, hw1⟩ := int_cell und3 t1
      obtain ⟨a2, rfl, hw2⟩ := int_cell und3 t2
      obtain ⟨a3, rfl, hw3⟩ := int_cell und3 t3
      obtain ⟨a4, rfl, hw4⟩ := int_cell und3 t4
      obtain ⟨a5, rfl, hw5⟩ := int_cell und3 t5
      obtain ⟨a6, rfl, _⟩ := int_cell undI6 t6
      obtain ⟨s, xs, hs, hr, hb, hx⟩ := bytes_fits t7 w7
      injection hs with hs _; subst hs
      obtain ⟨a8, rfl⟩ := bool_cell und4 t8
      obtain ⟨dh, rfl⟩ := hr.sh
      exact ⟨⟨a0, a1, a2, a3, a4, a5, a6, dh, xs, a8⟩, rfl, ⟨hr, hx⟩, i64_wf hw5⟩) hf h
  obtain ⟨s, rfl, hr⟩ := tr_fits (C := cOp) (by decide) h1
  exact ⟨s, xs, rfl, hr, hp⟩
theorem op_fits {fuel : Nat} {cs : List Value} {x : DataW H × List MemPlace} (hl : cs.length = 9) (h : DataW.trod enc Tryz.prog w base spare held fuel 36 cs = some x) (hf : Fits Tryz.prog 36 x.1) :
    ∃ o, cs = OpA.cells o ∧ OpOk w o := by
  have hc := struct_fits undOpp (by kernel_rfl) (hl.trans (by kernel_rfl)) hf h
  match cs, hl with
  | [v0, v1, v2, v3, v4, v5, v6, v7, v8], _ =>
    obtain ⟨f0, g0, e0⟩ := field_of (t := 36) (j := 0) (ft := 3) (by kernel_rfl)
    obtain ⟨_, _, _, c0, t0, _⟩ := hc 0 f0 g0
    rw [e0] at t0
    obtain ⟨f1, g1, e1⟩ := field_of (t := 36) (j := 1) (ft := 3) (by kernel_rfl)
    obtain ⟨_, _, _, c1, t1, _⟩ := hc 1 f1 g1
    rw [e1] at t1
    obtain ⟨f2, g2, e2⟩ := field_of (t := 36) (j := 2) (ft := 3) (by kernel_rfl)
    obtain ⟨_, _, _, c2, t2, _⟩ := hc 2 f2 g2
    rw [e2] at t2
    obtain ⟨f3, g3, e3⟩ := field_of (t := 36) (j := 3) (ft := 3) (by kernel_rfl)
    obtain ⟨_, _, _, c3, t3, _⟩ := hc 3 f3 g3
    rw [e3] at t3
    obtain ⟨f4, g4, e4⟩ := field_of (t := 36) (j := 4) (ft := 3) (by kernel_rfl)
    obtain ⟨_, _, _, c4, t4, _⟩ := hc 4 f4 g4
    rw [e4] at t4
    obtain ⟨f5, g5, e5⟩ := field_of (t := 36) (j := 5) (ft := 3) (by kernel_rfl)
    obtain ⟨_, _, _, c5, t5, _⟩ := hc 5 f5 g5
    rw [e5] at t5
    obtain ⟨f6, g6, e6⟩ := field_of (t := 36) (j := 6) (ft := 2) (by kernel_rfl)
    obtain ⟨_, _, _, c6, t6, _⟩ := hc 6 f6 g6
    obtain ⟨f7, g7, e7⟩ := field_of (t := 36) (j := 7) (ft := 30) (by kernel_rfl)
    obtain ⟨_, _, _, c7, t7, w7⟩ := hc 7 f7 g7
    obtain ⟨f8, g8, e8⟩ := field_of (t := 36) (j := 8) (ft := 4) (by kernel_rfl)
    obtain ⟨_, _, _, c8, t8, _⟩ := hc 8 f8 g8
    rw [e6] at t6; rw [e7] at t7 w7; rw [e8] at t8
    simp at c0 c1 c2 c3 c4 c5 c6 c7 c8
    subst c0 c1 c2 c3 c4 c5 c6 c7 c8
    obtain ⟨a0, rfl, hw0⟩ := int_cell und3 t0
    obtain ⟨a1, rfl, hw1⟩ := int_cell und3 t1
    obtain ⟨a2, rfl, hw2⟩ := int_cell und3 t2
    obtain ⟨a3, rfl, hw3⟩ := int_cell und3 t3
    obtain ⟨a4, rfl, hw4⟩ := int_cell und3 t4
    obtain ⟨a5, rfl, hw5⟩ := int_cell und3 t5
    obtain ⟨a6, rfl, _⟩ := int_cell undI6 t6
    obtain ⟨s, xs, hs, hr, hb, hx⟩ := bytes_fits t7 w7
    injection hs with hs _; subst hs
    obtain ⟨a8, rfl⟩ := bool_cell und4 t8
    obtain ⟨dh, rfl⟩ := hr.sh
    exact ⟨⟨a0, a1, a2, a3, a4, a5, a6, dh, xs, a8⟩, rfl, ⟨hr, hx⟩, i64_wf hw5⟩
end
end Go.Proofs.YtmkcjopacmadhaaGreat.Den
