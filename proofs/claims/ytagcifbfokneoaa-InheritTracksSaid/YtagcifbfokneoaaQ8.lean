/- From the library's sort contracts to lists in chunks. Conditions: none. -/
import Derived.Shelf.SlSortCmp.NoneTotal
import Derived.Test.YtagcifbfokneoaaQ7
section
set_option linter.unusedVariables false
set_option linter.unusedSimpArgs false
set_option maxRecDepth 8000
namespace Go.Proofs.Ytagcifbfokneoaa.Den
open Go Go.RowKit
section
variable {α : Type} [Inhabited α] {C : Cod α} {xs : List α} {w w' w0 : World} {L F cs : List Chunk} {s : Value} {el : Nat}
theorem ext_grow {W W' : World} (h : Ext [] W W') : ∃ q os, W' = Sort.grow (W.drewN q) os := by
  refine ⟨W'.drawn - W.drawn, W'.heap.extract W.heap.size W'.heap.size, ?_⟩
  have h1 := h.os; have h2 := h.tape; have h3 := h.output; have h4 := h.drawn
  have hh : W'.heap = W.heap ++ W'.heap.extract W.heap.size W'.heap.size := by
    apply Array.ext_getElem?
    intro i
    rw [Array.getElem?_append]
    split
    · rename_i hi; rw [h.block i hi (by simp)]
    · rename_i hi
      by_cases hi2 : i < W'.heap.size
      · rw [Array.getElem?_extract]
        rw [if_pos (by have := h.size; omega)]
        congr 1; omega
      · rw [Array.getElem?_eq_none (by omega), Array.getElem?_eq_none]
        simp; omega
  obtain ⟨hp, tp, dr, os', out⟩ := W'
  simp only at h1 h2 h3 h4 hh
  subst h1 h2 h3
  simp only [Sort.grow, World.drewN, World.mk.injEq, and_true, true_and]
  exact ⟨hh, by omega⟩
theorem flatK_all : (Sort.flatK C.enc C.sz xs.toArray).toList = C.all xs := by
  apply List.ext_getElem?
  intro t
  by_cases ht : t < xs.length * C.sz
  · have hz : 0 < C.sz := Nat.pos_of_ne_zero fun h => by rw [h] at ht; simp at ht
    have hj : t / C.sz < xs.length := (Nat.div_lt_iff_lt_mul hz).2 ht
    have hm : t % C.sz < C.sz := Nat.mod_lt _ hz
    obtain ⟨x, hx⟩ : ∃ x, xs[t / C.sz]? = some x := ⟨_, List.getElem?_eq_getElem hj⟩
    have e1 := all_get (C := C) hx hm
    rw [show t / C.sz * C.sz + t % C.sz = t from by rw [Nat.mul_comm]; exact Nat.div_add_mod _ _] at e1
    rw [e1]
    have e2 : xs.toArray[t / C.sz]! = x := by simp [hx]
    have e3 : (Sort.flatK C.enc C.sz xs.toArray)[t]? = some ((C.enc x)[t % C.sz]!) := by
      simp only [Sort.flatK, Array.getElem?_map]
      rw [Array.getElem?_range]
      simp only [List.size_toArray, if_pos ht, Option.map_some, e2]
    rw [Array.getElem?_toList, e3]
    have hl := C.len x
    rw [List.getElem?_eq_getElem (by omega), List.getElem!_eq_getElem?_getD, List.getElem?_eq_getElem (by omega)]; rfl
  · rw [List.getElem?_eq_none, List.getElem?_eq_none]
    · rw [all_len]; omega
    · simp [Sort.flatK]; omega
theorem sort_bridge (h : TS C el s xs cs) (H : Hp w0 w (cs ++ F)) (hn : 0 < xs.length) : ∃ b cap, s = .slice (some ⟨b, 0, none⟩) xs.length cap ∧ Sort.HoldsK C.enc C.sz w b 0 xs.toArray ∧ b < w.heap.size ∧
    ∀ (d' : Array α) (n : Nat) (os : Array Obj), d'.size = xs.length → ∃ cs', Hp w0 (sortWorldK C.enc C.sz w b 0 n d' os) (cs' ++ F) ∧ TS C el s d'.toList cs' := by
  obtain ⟨b, cap, rest, rfl, rfl, h1, h2⟩ := h.chunk hn
  have hb : Blk w b el (C.all xs ++ rest) := (H.blk ⟨b, el, C.all xs ++ rest⟩ (by simp)).2
  refine ⟨b, cap, rfl, ?_, hb.lt, ?_⟩
  · intro j hj
    rw [Nat.zero_add]
    refine ⟨?_, hb.frozen j⟩
    rw [hb.cell]
    have e : (Sort.flatK C.enc C.sz xs.toArray)[j]? = (C.all xs)[j]? := by rw [← Array.getElem?_toList, flatK_all]
    have hl : (C.all xs).length = (Sort.flatK C.enc C.sz xs.toArray).size := by rw [← flatK_all]; simp
    rw [List.getElem?_append_left (by omega), ← e, Array.getElem?_eq_getElem hj, getElem!_pos _ j hj]
    rfl
  · intro d' n os hd
    refine ⟨[⟨b, el, C.all d'.toList ++ rest⟩], ?_, by rw [← hd, ← Array.length_toList]; exact TS.mk rfl (by simp; omega) (by rw [h2, ← hd]; simp)⟩
    have hfl : (Sort.flatK C.enc C.sz d').toList = C.all d'.toList := by
      have := flatK_all (C := C) (xs := d'.toList); simpa using this
    have hlen : (C.all d'.toList).length = (C.all xs).length := by rw [all_len, all_len]; simp [hd]
    have hsz : (Sort.flatK C.enc C.sz d').size = (C.all xs).length := by rw [← hlen, ← hfl]; simp
    have hheap : w.heap[b]? = some (.cells ⟨C.all xs ++ rest⟩ el (0, 0)) := hb
    have hcells : Sort.putCells id 0 (Sort.flatK C.enc C.sz d') ⟨C.all xs ++ rest⟩ = ⟨C.all d'.toList ++ rest⟩ := by
      apply Array.ext_getElem?
      intro i
      simp only [Sort.putCells, Array.getElem?_mapIdx]
      by_cases hi : i < (C.all xs).length
      · have e1 : ((⟨C.all xs ++ rest⟩ : Array Value))[i]? = some (C.all xs)[i] := by simp [List.getElem?_append_left hi, hi]
        have e2 : ((⟨C.all d'.toList ++ rest⟩ : Array Value))[i]? = (C.all d'.toList)[i]? := by simp [List.getElem?_append_left (show i < (C.all d'.toList).length by omega)]
        rw [e1, e2, ← hfl]
        simp only [Option.map_some, Nat.zero_le, true_and, Nat.zero_add, Nat.sub_zero, hsz, hi, if_true, id]
        simp [hsz, hi]
      · have e1 : ((⟨C.all xs ++ rest⟩ : Array Value))[i]? = rest[i - (C.all xs).length]? := by simp [List.getElem?_append_right (Nat.not_lt.1 hi)]
        have e2 : ((⟨C.all d'.toList ++ rest⟩ : Array Value))[i]? = rest[i - (C.all xs).length]? := by
          have := List.getElem?_append_right (l₁ := C.all d'.toList) (l₂ := rest) (i := i) (by omega)
          rw [hlen] at this; simpa using this
        rw [e1, e2]
        cases rest[i - (C.all xs).length]? with
        | none => rfl
        | some v => simp only [Option.map_some, hsz]; rw [if_neg (by omega)]
    have hb' : Blk (sortWorldK C.enc C.sz w b 0 n d' os) b el (C.all d'.toList ++ rest) := by
      unfold Blk sortWorldK Sort.grow Sort.putRowK Sort.putRow Sort.mapBlock Sort.ahead
      simp only
      rw [Array.getElem?_append_left (by simpa using hb.lt), Array.getElem?_modify, if_pos rfl, hheap]
      simp only [Option.map_some, Sort.onCells, hcells]
    have he : Ext [b] w (sortWorldK C.enc C.sz w b 0 n d' os) := by
      refine ⟨rfl, rfl, rfl, ?_, fun k hk hne => ?_, ?_⟩
      · unfold sortWorldK Sort.grow Sort.putRowK Sort.putRow Sort.mapBlock Sort.ahead; simp
      · unfold sortWorldK Sort.grow Sort.putRowK Sort.putRow Sort.mapBlock Sort.ahead
        simp only
        rw [Array.getElem?_append_left (by simpa using hk), Array.getElem?_modify, if_neg (by simpa using fun h => hne (by simp [h]))]
      · unfold sortWorldK Sort.grow Sort.putRowK Sort.putRow Sort.mapBlock Sort.ahead; simp
    exact Hp.upd (c := ⟨b, el, C.all xs ++ rest⟩) H hb' he
theorem permIn_all {d d' : Array α} (h : Sort.PermIn 0 d.size d d') : d'.size = d.size ∧ d'.toList.Perm d.toList := by
  obtain ⟨h1, _, h3⟩ := h
  refine ⟨h1, ?_⟩
  have e1 : d'.extract 0 d.size = d' := by rw [← h1]; simp
  have e2 : d.extract 0 d.size = d := by simp
  rw [e1, e2] at h3; exact h3
theorem sortedIn_pw {lt : α → α → Bool} {d : Array α} (h : Sort.SortedIn lt 0 d.size d) : d.toList.Pairwise fun x y => lt y x = false := by
  rw [List.pairwise_iff_getElem]
  intro i j hi hj hij
  have := h i j (Nat.zero_le _) hij (by simpa using hj)
  simp only [Array.length_toList] at hi hj
  simpa [hi, hj] using this
end
end Go.Proofs.Ytagcifbfokneoaa.Den
end

section
set_option linter.unusedVariables false
set_option linter.unusedSimpArgs false
set_option maxRecDepth 8000
namespace Go.Proofs.Ytagcifbfokneoaa.Den
open Go Go.RowKit
/-! ### the library's sort, at this program -/
def sortE_ren : Go.Shelf.Ren := ⟨fun | 6 => 65 | 15 => 72 | 14 => 71 | 28 => 83 | 29 => 84 | 20 => 75 | 21 => 76 | 22 => 77 | 23 => 78 | 24 => 79 | 25 => 80 | 26 => 81 | 27 => 82 | 46 => 85 | 47 => 86 | 48 => 87 | 49 => 88 | 50 => 89 | 57 => 90 | n => n, fun | 22 => 23 | 24 => 39 | 25 => 99 | 3 => 3 | 39 => 110 | 0 => 0 | 53 => 121 | 55 => 123 | 4 => 4 | 46 => 114 | 45 => 113 | 50 => 118 | 5 => 5 | 9 => 9 | 66 => 124 | 70 => 128 | 76 => 130 | 77 => 131 | n => n, fun | n => n⟩
theorem sortE : Go.Proofs.SlLaysF0.n6 Try.prog sortE_ren := { mixed := by kernel_rfl, f6 := ⟨Try.f65.name, by decide, Try.func65.trans (congrArg some (by kernel_rfl))⟩, f14 := ⟨Try.f71.name, by decide, Try.func71.trans (congrArg some (by kernel_rfl))⟩, f15 := Try.func72.trans (congrArg some (by kernel_rfl)), f20 := ⟨Try.f75.name, by decide, Try.func75.trans (congrArg some (by kernel_rfl))⟩, f21 := ⟨Try.f76.name, by decide, Try.func76.trans (congrArg some (by kernel_rfl))⟩, f22 := ⟨Try.f77.name, by decide, Try.func77.trans (congrArg some (by kernel_rfl))⟩, f23 := ⟨Try.f78.name, by decide, Try.func78.trans (congrArg some (by kernel_rfl))⟩, f24 := ⟨Try.f79.name, by decide, Try.func79.trans (congrArg some (by kernel_rfl))⟩, f25 := ⟨Try.f80.name, by decide, Try.func80.trans (congrArg some (by kernel_rfl))⟩, f26 := ⟨Try.f81.name, by decide, Try.func81.trans (congrArg some (by kernel_rfl))⟩, f27 := ⟨Try.f82.name, by decide, Try.func82.trans (congrArg some (by kernel_rfl))⟩, f28 := Try.func83.trans (congrArg some (by kernel_rfl)), f29 := Try.func84.trans (congrArg some (by kernel_rfl)), f46 := ⟨Try.f85.name, by decide, Try.func85.trans (congrArg some (by kernel_rfl))⟩, f47 := Try.func86.trans (congrArg some (by kernel_rfl)), f48 := Try.func87.trans (congrArg some (by kernel_rfl)), f49 := ⟨Try.f88.name, by decide, Try.func88.trans (congrArg some (by kernel_rfl))⟩, f50 := ⟨Try.f89.name, by decide, Try.func89.trans (congrArg some (by kernel_rfl))⟩, f57 := ⟨Try.f90.name, by decide, Try.func90.trans (congrArg some (by kernel_rfl))⟩, t0 := Try.underlying0, a0 := Try.isAgg0, z0 := Try.sizeOf0, v0 := Try.zeroValue0, t3 := Try.underlying3, a3 := Try.isAgg3, z3 := Try.sizeOf3, v3 := Try.zeroValue3, t4 := Try.underlying4, a4 := Try.isAgg4, z4 := Try.sizeOf4, v4 := Try.zeroValue4, t5 := Try.underlying5, a5 := Try.isAgg5, z5 := Try.sizeOf5, v5 := Try.zeroValue5, t9 := Try.underlying9, a9 := Try.isAgg9, z9 := Try.sizeOf9, v9 := Try.zeroValue9, t22 := Try.underlying23, a22 := Try.isAgg23, z22 := Try.sizeOf23, v22 := Try.zeroValue23, t25 := Try.underlying99, a25 := Try.isAgg99, z25 := Try.sizeOf99, v25 := Try.zeroValue99, t39 := Try.underlying110, a39 := Try.isAgg110, z39 := Try.sizeOf110, v39 := Try.zeroValue110, t45 := Try.underlying113, a45 := Try.isAgg113, z45 := Try.sizeOf113, v45 := Try.zeroValue113, t46 := Try.underlying114, a46 := Try.isAgg114, z46 := Try.sizeOf114, v46 := Try.zeroValue114, t50 := Try.underlying118, a50 := Try.isAgg118, z50 := Try.sizeOf118, v50 := Try.zeroValue118, t53 := Try.underlying121, a53 := Try.isAgg121, z53 := Try.sizeOf121, v53 := Try.zeroValue121, t55 := Try.underlying123, a55 := Try.isAgg123, z55 := Try.sizeOf123, v55 := Try.zeroValue123, t66 := Try.underlying124, a66 := Try.isAgg124, z66 := Try.sizeOf124, v66 := Try.zeroValue124, t70 := Try.underlying128, a70 := Try.isAgg128, z70 := Try.sizeOf128, v70 := Try.zeroValue128, t76 := Try.underlying130, a76 := Try.isAgg130, z76 := Try.sizeOf130, v76 := Try.zeroValue130, t77 := Try.underlying131, a77 := Try.isAgg131, z77 := Try.sizeOf131, v77 := Try.zeroValue131 }

def ltN (x y : Nat × Nat) : Bool := decide (x.1 < y.1 ∨ x.1 = y.1 ∧ x.2 < y.2)
def cfN (x y : Nat × Nat) : Int := cmpE (ofN x) (ofN y)
theorem ltN_eq (x y : Nat × Nat) : ltOf cfN x y = ltN x y := by
  unfold ltOf ltN cfN cmpE cmpI ofN
  rw [decide_eq_decide]
  simp only [Prod.mk.injEq]
  repeat' split
  all_goals omega
theorem swoN : Go.Sort.SWO (ltOf cfN) where
  irrefl x := by rw [ltN_eq]; simp [ltN]
  trans x y z h1 h2 := by rw [ltN_eq] at *; simp only [ltN, decide_eq_true_eq] at *; omega
  ntrans x y z h1 h2 := by rw [ltN_eq] at *; simp only [ltN, decide_eq_false_iff_not] at *; omega
/-- Strictly increasing. -/
def Inc (l : List (Nat × Nat)) : Prop := l.Pairwise fun x y => ltN x y = true
section
variable {w w' w0 : World} {L L' F cs cs2 cs3 : List Chunk} {s s2 sb se sd : Value} {K : VK} {R : ER} {base d : List Int} {es : List (Int × Int)} {E : List (Nat × Nat)} {n f b : Nat}
theorem sort_spec (h : TS cN 39 s E cs) (H : Hp w0 w (cs ++ F)) (hl : E.length ≤ 4000) (hn : E.Nodup) :
    Calls Pg 65 ⟨[s, .func (.func 64) ⟨[]⟩ ⟨[]⟩]⟩ w fun e w' => ∃ E' cs', e = .returned (.tuple ⟨[]⟩) ∧ Hp w0 w' (cs' ++ F) ∧ TS cN 39 s E' cs' ∧ E'.Perm E ∧ Inc E' := by
  rcases Nat.eq_zero_or_pos E.length with h0 | h0
  · have hE : E = [] := List.length_eq_zero_iff.1 h0
    subst hE
    obtain ⟨p, cap, rfl⟩ : ∃ p cap, s = .slice p 0 cap := by
      rcases h with ⟨_, ⟨a, rfl⟩, _, _⟩ | ⟨b, cap, rest, _, rfl, _⟩
      · exact ⟨a, 0, rfl⟩
      · exact ⟨_, cap, rfl⟩
    refine (AnyF.slices_SortFunc_none sortE p cap (.func (.func 64) ⟨[]⟩ ⟨[]⟩) w).mono ?_
    rintro e w' ⟨rfl, rfl⟩
    exact ⟨[], cs, rfl, H, h, List.Perm.refl _, List.Pairwise.nil⟩
  · obtain ⟨b, cap, rfl, hH, hb, hpost⟩ := sort_bridge h H h0
    have hc := AnyQ.slices_SortFunc sortE 2 Try.isAgg39 Try.sizeOf39 cN.enc cN.len (fun x v hv => by simp [cN] at hv; rcases hv with rfl | rfl <;> rfl) cfN swoN 64 ⟨[]⟩ b 0 cap E.toArray w
      (enters_of Try.func64 (by kernel_rfl) rfl) (fun m os dk hs x y => by
        refine (order_spec (a := ofN x) (b := ofN y) (Hp.refl _)).mono ?_
        rintro e w' ⟨rfl, H'⟩
        exact ⟨rfl, ext_grow H'.ext⟩) hH hb (by simp; omega)
    refine Calls.mono hc ?_
    rintro e w' ⟨rfl, d', n, os, hp, hs, rfl⟩
    obtain ⟨g1, g2⟩ := permIn_all hp
    obtain ⟨cs', H', hts⟩ := hpost d' n os (by simpa using g1)
    refine ⟨d'.toList, cs', rfl, H', hts, by simpa using g2, ?_⟩
    have hpw := sortedIn_pw (lt := ltOf cfN) (d := d') (by rw [g1]; exact hs)
    have hnd : d'.toList.Nodup := g2.nodup_iff.2 (by simpa using hn)
    refine (hpw.and hnd).imp ?_
    rintro x y ⟨h1, h2⟩
    rw [ltN_eq] at h1
    simp only [ltN, decide_eq_false_iff_not, decide_eq_true_eq] at *
    have : ¬ (x.1 = y.1 ∧ x.2 = y.2) := fun h => h2 (Prod.ext h.1 h.2)
    omega
theorem Sorted_spec (h : TR cN w0 cs s E) (H : Hp w0 w (⟨b, 23, [s]⟩ :: L)) (m1 : ∀ c ∈ cs, c ∈ L) (hl : E.length ≤ 4000) (hn : E.Nodup) :
    Calls Pg 62 ⟨[.func (.func 68) ⟨[]⟩ ⟨[ptr b 0]⟩, .func (.func 64) ⟨[]⟩ ⟨[]⟩]⟩ w fun e w' => ∃ s' E' cs', e = .returned s' ∧ Hp w0 w' (cs' ++ L) ∧ TS cN 39 s' E' cs' ∧ E'.Perm E ∧ Inc E' := by
  apply F62_calls
  unfold F62
  have col : Calls Pg 67 ⟨[.func (.func 68) ⟨[]⟩ ⟨[ptr b 0]⟩]⟩ w fun e w' => ∃ s' cs', e = .returned s' ∧ Hp w0 w' (cs' ++ L) ∧ TS cN 39 s' E cs' := by
    apply F67_calls
    unfold F67
    refine cal_h (ySeq_spec h H m1 hl) ?_
    rintro _ w ⟨s', cs', rfl, H', hs⟩
    exact ⟨s', cs', rfl, H', hs⟩
  refine cal_h col ?_
  rintro _ w ⟨s', cs', rfl, H, hs⟩
  simp only [ret_k]
  refine cal_h (sort_spec hs H hl hn) ?_
  rintro _ w ⟨E', cs', rfl, H, hs, hp, hi⟩
  exact ⟨_, E', cs', rfl, H, hs, hp, hi⟩
end
end Go.Proofs.Ytagcifbfokneoaa.Den
end

section
set_option linter.unusedVariables false
set_option linter.unusedSimpArgs false
set_option maxRecDepth 8000
namespace Go.Proofs.Ytagcifbfokneoaa.Den
open Go Go.RowKit
theorem elS : ElT 75 22 cS.sz 24 [.slice none 0 0] := ⟨by kernel_rfl, by kernel_rfl, rfl⟩
def adjAt (key vl : Nat × Nat → Nat) (l : List (Nat × Nat)) (v : Nat) : List Nat := (l.filter fun e => key e == v).map vl
def adj (key vl : Nat × Nat → Nat) (l : List (Nat × Nat)) (n : Nat) : List (List Nat) := (List.range n).map (adjAt key vl l)
theorem adj_len {key vl : Nat × Nat → Nat} {l : List (Nat × Nat)} {n : Nat} : (adj key vl l n).length = n := by simp [adj]
theorem adj_get {key vl : Nat × Nat → Nat} {l : List (Nat × Nat)} {n v : Nat} (h : v < n) : (adj key vl l n)[v]? = some (adjAt key vl l v) := by simp [adj, h]
theorem adjAt_len {key vl : Nat × Nat → Nat} {l : List (Nat × Nat)} {v m : Nat} (h : l.length ≤ m) : (adjAt key vl l v).length ≤ m := by
  rw [adjAt, List.length_map]; exact Nat.le_trans (List.length_filter_le _ _) h
theorem adj_nil {key vl : Nat × Nat → Nat} {n : Nat} : adj key vl [] n = List.replicate n [] := by
  apply List.ext_getElem?; intro i
  by_cases h : i < n
  · rw [adj_get h]; simp [adjAt, h]
  · rw [List.getElem?_eq_none (by simp [adj]; omega), List.getElem?_eq_none (by simp; omega)]
theorem adj_snoc {key vl : Nat × Nat → Nat} {l : List (Nat × Nat)} {n : Nat} {e : Nat × Nat} (h : key e < n) : adj key vl (l ++ [e]) n = (adj key vl l n).set (key e) (adjAt key vl l (key e) ++ [vl e]) := by
  apply List.ext_getElem?; intro i
  by_cases hi : i < n
  · rw [adj_get hi]
    by_cases hk : key e = i
    · subst hk
      rw [List.getElem?_set_self (by rw [adj_len]; exact h)]
      simp [adjAt]
    · rw [List.getElem?_set_ne hk, adj_get hi]
      simp [adjAt, hk]
  · rw [List.getElem?_eq_none (by rw [adj_len]; omega), List.getElem?_eq_none (by rw [List.length_set, adj_len]; omega)]
theorem flatten_nils {n : Nat} : (List.replicate n ([] : List Chunk)).flatten = [] := by simp
section
variable {w w' w0 : World} {L L' F cs cs2 : List Chunk} {s s2 sb se sd : Value} {K : VK} {R : ER} {base d : List Int} {E : List (Nat × Nat)} {n f : Nat}
theorem holders_spec (h1 : TR cI w0 cs sb base) (h2 : TR cN w0 cs2 se E) (H : Hp w0 w L) (m1 : ∀ c ∈ cs, c ∈ L) (m2 : ∀ c ∈ cs2, c ∈ L) (hV : Valid E base.length) (hl : base.length ≤ 256) (hel : E.length ≤ 4000) (hnd : E.Nodup) :
    Calls Pg 46 ⟨[.agg ⟨[sb, se]⟩]⟩ w fun x w' => ∃ s cs E', x = .returned s ∧ Hp w0 w' (cs ++ L) ∧ NR cU w0 cs s (adj Prod.fst Prod.snd E' base.length) ∧ E'.Perm E ∧ Inc E' := by
  apply F46_calls
  unfold F46
  refine bx_m H fun w b H => ?_
  repeat (first | simp only [cI_enc, cE_enc, cN_enc, W0] | refine lss_a ?_ | refine lss_b ?_ | refine gtr_a ?_ | refine gtr_b ?_ | refine geq_a ?_ | refine geq_b ?_ | refine leq_a ?_ | refine leq_b ?_ | refine eql_a ?_ | refine eql_b ?_ | refine neq_a ?_ | refine neq_b ?_ | refine add_a ?_ | refine sub_a ?_ | refine ld_a ?_ | refine ldA_a ?_ | refine ldS_a ?_ | refine ldNS_a ?_ | refine rdA_s ?_ | refine rd1_s ?_ | refine drew_a fun w1 H1 => ?_ | refine st_a fun w1 H1 => ?_ | refine stA_a fun w1 H1 => ?_ | refine lenT_a ?_ | refine lenO_a ?_ | refine ixT_a ?_ | refine ixO_a ?_ | fail)
  refine make_t (C := cS) (x := ⟨none, 0, 0⟩) elS rfl H rfl (by omega) (by omega) fun w s0 cs0 H hs0 => ?_
  unfold F46_j2
  repeat (first | simp only [cI_enc, cE_enc, cN_enc, W0] | refine lss_a ?_ | refine lss_b ?_ | refine gtr_a ?_ | refine gtr_b ?_ | refine geq_a ?_ | refine geq_b ?_ | refine leq_a ?_ | refine leq_b ?_ | refine eql_a ?_ | refine eql_b ?_ | refine neq_a ?_ | refine neq_b ?_ | refine add_a ?_ | refine sub_a ?_ | refine ld_a ?_ | refine ldA_a ?_ | refine ldS_a ?_ | refine ldNS_a ?_ | refine rdA_s ?_ | refine rd1_s ?_ | refine drew_a fun w1 H1 => ?_ | refine st_a fun w1 H1 => ?_ | refine stA_a fun w1 H1 => ?_ | refine lenT_a ?_ | refine lenO_a ?_ | refine ixT_a ?_ | refine ixO_a ?_ | fail)
  have vals : ∀ {w L}, Hp w0 w L → Calls Pg 63 ⟨[se]⟩ w fun e w' => ∃ b, e = .returned (.func (.func 68) ⟨[]⟩ ⟨[ptr b 0]⟩) ∧ Hp w0 w' (⟨b, 23, [se]⟩ :: L) := by
    intro w L H
    apply F63_calls
    unfold F63
    refine bxs_h H h2.cells fun w b H => ?_
    exact ⟨b, rfl, H⟩
  refine cal_h (vals H) ?_
  rintro _ w ⟨b2, rfl, H⟩
  simp only [ret_k]
  refine cal_h (Sorted_spec h2 H csub hel hnd) ?_
  rintro _ w ⟨sE, E', csE, rfl, H, hE, hperm, hinc⟩
  have hE := hE.tr (w0 := w0)
  repeat (first | simp only [cI_enc, cE_enc, cN_enc, W0] | refine lss_a ?_ | refine lss_b ?_ | refine gtr_a ?_ | refine gtr_b ?_ | refine geq_a ?_ | refine geq_b ?_ | refine leq_a ?_ | refine leq_b ?_ | refine eql_a ?_ | refine eql_b ?_ | refine neq_a ?_ | refine neq_b ?_ | refine add_a ?_ | refine sub_a ?_ | refine ld_a ?_ | refine ldA_a ?_ | refine ldS_a ?_ | refine ldNS_a ?_ | refine rdA_s ?_ | refine rd1_s ?_ | refine drew_a fun w1 H1 => ?_ | refine st_a fun w1 H1 => ?_ | refine stA_a fun w1 H1 => ?_ | refine lenT_a ?_ | refine lenO_a ?_ | refine ixT_a ?_ | refine ixO_a ?_ | fail)
  have hV' : Valid E' base.length := fun e he => hV e (hperm.subset he)
  have hel' : E'.length ≤ 4000 := by rw [hperm.length_eq]; exact hel
  unfold F46_j3
  refine loop4 (F46_l1_succ _) (fun m x3 x13 x14 x15 w => ∃ i : Nat, ∃ cs css hs, x3 = s0 ∧ x13 = sE ∧ x14 = I (E'.length : Int) ∧ x15 = I i ∧ m + i = E'.length ∧ NS cU 22 3 s0 (adj Prod.fst Prod.snd (E'.take i) base.length) cs css hs ∧ Hp w0 w (cs ++ (css.flatten ++ (csE ++ (⟨b, 25, [sb, se]⟩ :: L))))) ?_ (m := E'.length)
    ⟨0, cs0, List.replicate base.length [], _, rfl, rfl, rfl, rfl, by omega, by rw [List.take_zero, adj_nil]; exact NS.empty hs0, by rw [flatten_nils]; exact H.re⟩
  clear H hs0
  rintro m k s0 sE _ _ w ⟨i, cs3, css, hs, rfl, rfl, rfl, rfl, hm, hN, H⟩ hk
  unfold F46_b1
  refine lss_k (fun hi => ?_) (fun hi => ?_)
  · have hx : E'[i]? = some E'[i] := List.getElem?_eq_getElem (by omega)
    have hv := hV' _ (List.getElem_mem (h := by omega) : E'[i] ∈ E')
    have htk : E'.take (i + 1) = E'.take i ++ [E'[i]] := by rw [List.take_add_one, hx]; rfl
    generalize E'[i] = e at hx hv htk
    have hkey : Prod.fst e < base.length := by first | exact hv.1 | exact hv.2
    unfold F46_j4
    refine ixN_t (C := cN) hE H csub hx (by decide) ?_
    refine al39 H fun w b3 H => ?_
    have hadj : (adj Prod.fst Prod.snd (E'.take i) base.length)[Prod.fst e]? = some (adjAt Prod.fst Prod.snd (E'.take i) (Prod.fst e)) := adj_get hkey
    have hlen : (adj Prod.fst Prod.snd (E'.take i) base.length).length = base.length := adj_len
    obtain ⟨k1, hk1⟩ : ∃ k1, hs[Prod.fst e]? = some k1 := ⟨_, List.getElem?_eq_getElem (by rw [hN.hl, hlen]; exact hkey)⟩
    obtain ⟨c1, hc1⟩ : ∃ c1, css[Prod.fst e]? = some c1 := ⟨_, List.getElem?_eq_getElem (by rw [hN.cl, hlen]; exact hkey)⟩
    have hsub := hN.sub _ _ _ _ hk1 hadj hc1
    have hsl : (adjAt Prod.fst Prod.snd (E'.take i) (Prod.fst e)).length ≤ 4000 := adjAt_len (by simp; omega)
    repeat (first | simp only [cI_enc, cE_enc, cN_enc, W0] | refine lss_a ?_ | refine lss_b ?_ | refine gtr_a ?_ | refine gtr_b ?_ | refine geq_a ?_ | refine geq_b ?_ | refine leq_a ?_ | refine leq_b ?_ | refine eql_a ?_ | refine eql_b ?_ | refine neq_a ?_ | refine neq_b ?_ | refine add_a ?_ | refine sub_a ?_ | refine ld_a ?_ | refine ldA_a ?_ | refine ldS_a ?_ | refine ldNS_a ?_ | refine rdA_s ?_ | refine rd1_s ?_ | refine drew_a fun w1 H1 => ?_ | refine st_a fun w1 H1 => ?_ | refine stA_a fun w1 H1 => ?_ | refine lenT_a ?_ | refine lenO_a ?_ | refine ixT_a ?_ | refine ixO_a ?_ | fail)
    refine ix1p_t (C := cS) (x := k1) (TS.tr hN.top) (by assumption) csub hk1 rfl rfl fun a8 e8 hat => ?_
    repeat (first | simp only [cI_enc, cE_enc, cN_enc, W0] | refine lss_a ?_ | refine lss_b ?_ | refine gtr_a ?_ | refine gtr_b ?_ | refine geq_a ?_ | refine geq_b ?_ | refine leq_a ?_ | refine leq_b ?_ | refine eql_a ?_ | refine eql_b ?_ | refine neq_a ?_ | refine neq_b ?_ | refine add_a ?_ | refine sub_a ?_ | refine ld_a ?_ | refine ldA_a ?_ | refine ldS_a ?_ | refine ldNS_a ?_ | refine rdA_s ?_ | refine rd1_s ?_ | refine drew_a fun w1 H1 => ?_ | refine st_a fun w1 H1 => ?_ | refine stA_a fun w1 H1 => ?_ | refine lenT_a ?_ | refine lenO_a ?_ | refine ixT_a ?_ | refine ixO_a ?_ | fail)
    refine lit1_t (C := cU) (x := Prod.snd e) elU (by assumption) rfl (by decide) fun w s4 cs4 H hs4 => ?_
    refine rd1_a (hat _ _ H csub) ?_
    repeat (first | simp only [cI_enc, cE_enc, cN_enc, W0] | refine lss_a ?_ | refine lss_b ?_ | refine gtr_a ?_ | refine gtr_b ?_ | refine geq_a ?_ | refine geq_b ?_ | refine leq_a ?_ | refine leq_b ?_ | refine eql_a ?_ | refine eql_b ?_ | refine neq_a ?_ | refine neq_b ?_ | refine add_a ?_ | refine sub_a ?_ | refine ld_a ?_ | refine ldA_a ?_ | refine ldS_a ?_ | refine ldNS_a ?_ | refine rdA_s ?_ | refine rd1_s ?_ | refine drew_a fun w1 H1 => ?_ | refine st_a fun w1 H1 => ?_ | refine stA_a fun w1 H1 => ?_ | refine lenT_a ?_ | refine lenO_a ?_ | refine ixT_a ?_ | refine ixO_a ?_ | fail)
    rw [flatten_split hc1] at H
    have H : Hp w0 w (c1 ++ (⟨b3, 39, [I (e.1 : Int), I (e.2 : Int)]⟩ :: (cs4 ++ (cs3 ++ ((css.take (Prod.fst e)).flatten ++ ((css.drop (Prod.fst e + 1)).flatten ++ (csE ++ (⟨b, 25, [sb, se]⟩ :: L)))))))) := H.re
    refine append_t elU H hsub spl hs4.tr csub (by simp; omega) (by simp; omega) fun w s5 cs5 H hs5 => ?_
    repeat (first | simp only [cI_enc, cE_enc, cN_enc, W0] | refine lss_a ?_ | refine lss_b ?_ | refine gtr_a ?_ | refine gtr_b ?_ | refine geq_a ?_ | refine geq_b ?_ | refine leq_a ?_ | refine leq_b ?_ | refine eql_a ?_ | refine eql_b ?_ | refine neq_a ?_ | refine neq_b ?_ | refine add_a ?_ | refine sub_a ?_ | refine ld_a ?_ | refine ldA_a ?_ | refine ldS_a ?_ | refine ldNS_a ?_ | refine rdA_s ?_ | refine rd1_s ?_ | refine drew_a fun w1 H1 => ?_ | refine st_a fun w1 H1 => ?_ | refine stA_a fun w1 H1 => ?_ | refine lenT_a ?_ | refine lenO_a ?_ | refine ixT_a ?_ | refine ixO_a ?_ | fail)
    obtain ⟨k5, rfl⟩ := hs5.sh
    have H : Hp w0 w (cs3 ++ (⟨b3, 39, [I (e.1 : Int), I (e.2 : Int)]⟩ :: (cs5 ++ ((css.take (Prod.fst e)).flatten ++ ((css.drop (Prod.fst e + 1)).flatten ++ (csE ++ (⟨b, 25, [sb, se]⟩ :: L))))))) := H.re
    refine ist1_t (C := cS) (x := k5) hN.top H spl (by rw [hN.hl, hlen]; exact hkey) rfl rfl fun w cs6 H hs6 => ?_
    repeat (first | simp only [cI_enc, cE_enc, cN_enc, W0] | refine lss_a ?_ | refine lss_b ?_ | refine gtr_a ?_ | refine gtr_b ?_ | refine geq_a ?_ | refine geq_b ?_ | refine leq_a ?_ | refine leq_b ?_ | refine eql_a ?_ | refine eql_b ?_ | refine neq_a ?_ | refine neq_b ?_ | refine add_a ?_ | refine sub_a ?_ | refine ld_a ?_ | refine ldA_a ?_ | refine ldS_a ?_ | refine ldNS_a ?_ | refine rdA_s ?_ | refine rd1_s ?_ | refine drew_a fun w1 H1 => ?_ | refine st_a fun w1 H1 => ?_ | refine stA_a fun w1 H1 => ?_ | refine lenT_a ?_ | refine lenO_a ?_ | refine ixT_a ?_ | refine ixO_a ?_ | fail)
    refine hk (m - 1) _ _ _ _ _ (by omega) ⟨i + 1, cs6, css.set (Prod.fst e) cs5, hs.set (Prod.fst e) k5, rfl, rfl, rfl, rfl, by omega, ?_, ?_⟩
    · rw [htk, adj_snoc hkey]
      exact hN.set (by rw [hlen]; exact hkey) hs6 hs5
    · rw [flatten_set hc1]
      exact H.re
  · repeat (first | simp only [cI_enc, cE_enc, cN_enc, W0] | refine lss_a ?_ | refine lss_b ?_ | refine gtr_a ?_ | refine gtr_b ?_ | refine geq_a ?_ | refine geq_b ?_ | refine leq_a ?_ | refine leq_b ?_ | refine eql_a ?_ | refine eql_b ?_ | refine neq_a ?_ | refine neq_b ?_ | refine add_a ?_ | refine sub_a ?_ | refine ld_a ?_ | refine ldA_a ?_ | refine ldS_a ?_ | refine ldNS_a ?_ | refine rdA_s ?_ | refine rd1_s ?_ | refine drew_a fun w1 H1 => ?_ | refine st_a fun w1 H1 => ?_ | refine stA_a fun w1 H1 => ?_ | refine lenT_a ?_ | refine lenO_a ?_ | refine ixT_a ?_ | refine ixO_a ?_ | fail)
    unfold F46_j1
    rw [List.take_of_length_le (by omega)] at hN
    exact ⟨_, cs3 ++ css.flatten, E', rfl, H.re, hN.nr, hperm, hinc⟩
theorem waiters_spec (h1 : TR cI w0 cs sb base) (h2 : TR cN w0 cs2 se E) (H : Hp w0 w L) (m1 : ∀ c ∈ cs, c ∈ L) (m2 : ∀ c ∈ cs2, c ∈ L) (hV : Valid E base.length) (hl : base.length ≤ 256) (hel : E.length ≤ 4000) (hnd : E.Nodup) :
    Calls Pg 44 ⟨[.agg ⟨[sb, se]⟩]⟩ w fun x w' => ∃ s cs E', x = .returned s ∧ Hp w0 w' (cs ++ L) ∧ NR cU w0 cs s (adj Prod.snd Prod.fst E' base.length) ∧ E'.Perm E ∧ E' = E := by
  apply F44_calls
  unfold F44
  refine bx_m H fun w b H => ?_
  repeat (first | simp only [cI_enc, cE_enc, cN_enc, W0] | refine lss_a ?_ | refine lss_b ?_ | refine gtr_a ?_ | refine gtr_b ?_ | refine geq_a ?_ | refine geq_b ?_ | refine leq_a ?_ | refine leq_b ?_ | refine eql_a ?_ | refine eql_b ?_ | refine neq_a ?_ | refine neq_b ?_ | refine add_a ?_ | refine sub_a ?_ | refine ld_a ?_ | refine ldA_a ?_ | refine ldS_a ?_ | refine ldNS_a ?_ | refine rdA_s ?_ | refine rd1_s ?_ | refine drew_a fun w1 H1 => ?_ | refine st_a fun w1 H1 => ?_ | refine stA_a fun w1 H1 => ?_ | refine lenT_a ?_ | refine lenO_a ?_ | refine ixT_a ?_ | refine ixO_a ?_ | fail)
  refine make_t (C := cS) (x := ⟨none, 0, 0⟩) elS rfl H rfl (by omega) (by omega) fun w s0 cs0 H hs0 => ?_
  unfold F44_j2
  repeat (first | simp only [cI_enc, cE_enc, cN_enc, W0] | refine lss_a ?_ | refine lss_b ?_ | refine gtr_a ?_ | refine gtr_b ?_ | refine geq_a ?_ | refine geq_b ?_ | refine leq_a ?_ | refine leq_b ?_ | refine eql_a ?_ | refine eql_b ?_ | refine neq_a ?_ | refine neq_b ?_ | refine add_a ?_ | refine sub_a ?_ | refine ld_a ?_ | refine ldA_a ?_ | refine ldS_a ?_ | refine ldNS_a ?_ | refine rdA_s ?_ | refine rd1_s ?_ | refine drew_a fun w1 H1 => ?_ | refine st_a fun w1 H1 => ?_ | refine stA_a fun w1 H1 => ?_ | refine lenT_a ?_ | refine lenO_a ?_ | refine ixT_a ?_ | refine ixO_a ?_ | fail)
  obtain ⟨E', sE, hE0, hS0⟩ : ∃ E' sE, E' = E ∧ sE = se := ⟨_, _, rfl, rfl⟩
  have hE : TR cN w0 cs2 sE E' := by rw [hE0, hS0]; exact h2
  have hperm : E'.Perm E := by rw [hE0]
  rw [← hS0, show E.length = E'.length from by rw [hE0]]
  have hV' : Valid E' base.length := fun e he => hV e (hperm.subset he)
  have hel' : E'.length ≤ 4000 := by rw [hperm.length_eq]; exact hel
  unfold F44_j3
  refine loop4 (F44_l1_succ _) (fun m x3 x13 x14 x15 w => ∃ i : Nat, ∃ cs css hs, x3 = s0 ∧ x13 = sE ∧ x14 = I (E'.length : Int) ∧ x15 = I i ∧ m + i = E'.length ∧ NS cU 22 3 s0 (adj Prod.snd Prod.fst (E'.take i) base.length) cs css hs ∧ Hp w0 w (cs ++ (css.flatten ++ (⟨b, 25, [sb, se]⟩ :: L)))) ?_ (m := E'.length)
    ⟨0, cs0, List.replicate base.length [], _, rfl, rfl, rfl, rfl, by omega, by rw [List.take_zero, adj_nil]; exact NS.empty hs0, by rw [flatten_nils]; exact H.re⟩
  clear H hs0
  rintro m k s0 sE _ _ w ⟨i, cs3, css, hs, rfl, rfl, rfl, rfl, hm, hN, H⟩ hk
  unfold F44_b1
  refine lss_k (fun hi => ?_) (fun hi => ?_)
  · have hx : E'[i]? = some E'[i] := List.getElem?_eq_getElem (by omega)
    have hv := hV' _ (List.getElem_mem (h := by omega) : E'[i] ∈ E')
    have htk : E'.take (i + 1) = E'.take i ++ [E'[i]] := by rw [List.take_add_one, hx]; rfl
    generalize E'[i] = e at hx hv htk
    have hkey : Prod.snd e < base.length := by first | exact hv.1 | exact hv.2
    unfold F44_j4
    refine ixN_t (C := cN) hE H csub hx (by decide) ?_
    refine al39 H fun w b3 H => ?_
    have hadj : (adj Prod.snd Prod.fst (E'.take i) base.length)[Prod.snd e]? = some (adjAt Prod.snd Prod.fst (E'.take i) (Prod.snd e)) := adj_get hkey
    have hlen : (adj Prod.snd Prod.fst (E'.take i) base.length).length = base.length := adj_len
    obtain ⟨k1, hk1⟩ : ∃ k1, hs[Prod.snd e]? = some k1 := ⟨_, List.getElem?_eq_getElem (by rw [hN.hl, hlen]; exact hkey)⟩
    obtain ⟨c1, hc1⟩ : ∃ c1, css[Prod.snd e]? = some c1 := ⟨_, List.getElem?_eq_getElem (by rw [hN.cl, hlen]; exact hkey)⟩
    have hsub := hN.sub _ _ _ _ hk1 hadj hc1
    have hsl : (adjAt Prod.snd Prod.fst (E'.take i) (Prod.snd e)).length ≤ 4000 := adjAt_len (by simp; omega)
    repeat (first | simp only [cI_enc, cE_enc, cN_enc, W0] | refine lss_a ?_ | refine lss_b ?_ | refine gtr_a ?_ | refine gtr_b ?_ | refine geq_a ?_ | refine geq_b ?_ | refine leq_a ?_ | refine leq_b ?_ | refine eql_a ?_ | refine eql_b ?_ | refine neq_a ?_ | refine neq_b ?_ | refine add_a ?_ | refine sub_a ?_ | refine ld_a ?_ | refine ldA_a ?_ | refine ldS_a ?_ | refine ldNS_a ?_ | refine rdA_s ?_ | refine rd1_s ?_ | refine drew_a fun w1 H1 => ?_ | refine st_a fun w1 H1 => ?_ | refine stA_a fun w1 H1 => ?_ | refine lenT_a ?_ | refine lenO_a ?_ | refine ixT_a ?_ | refine ixO_a ?_ | fail)
    refine ix1p_t (C := cS) (x := k1) (TS.tr hN.top) (by assumption) csub hk1 rfl rfl fun a8 e8 hat => ?_
    repeat (first | simp only [cI_enc, cE_enc, cN_enc, W0] | refine lss_a ?_ | refine lss_b ?_ | refine gtr_a ?_ | refine gtr_b ?_ | refine geq_a ?_ | refine geq_b ?_ | refine leq_a ?_ | refine leq_b ?_ | refine eql_a ?_ | refine eql_b ?_ | refine neq_a ?_ | refine neq_b ?_ | refine add_a ?_ | refine sub_a ?_ | refine ld_a ?_ | refine ldA_a ?_ | refine ldS_a ?_ | refine ldNS_a ?_ | refine rdA_s ?_ | refine rd1_s ?_ | refine drew_a fun w1 H1 => ?_ | refine st_a fun w1 H1 => ?_ | refine stA_a fun w1 H1 => ?_ | refine lenT_a ?_ | refine lenO_a ?_ | refine ixT_a ?_ | refine ixO_a ?_ | fail)
    refine lit1_t (C := cU) (x := Prod.fst e) elU (by assumption) rfl (by decide) fun w s4 cs4 H hs4 => ?_
    refine rd1_a (hat _ _ H csub) ?_
    repeat (first | simp only [cI_enc, cE_enc, cN_enc, W0] | refine lss_a ?_ | refine lss_b ?_ | refine gtr_a ?_ | refine gtr_b ?_ | refine geq_a ?_ | refine geq_b ?_ | refine leq_a ?_ | refine leq_b ?_ | refine eql_a ?_ | refine eql_b ?_ | refine neq_a ?_ | refine neq_b ?_ | refine add_a ?_ | refine sub_a ?_ | refine ld_a ?_ | refine ldA_a ?_ | refine ldS_a ?_ | refine ldNS_a ?_ | refine rdA_s ?_ | refine rd1_s ?_ | refine drew_a fun w1 H1 => ?_ | refine st_a fun w1 H1 => ?_ | refine stA_a fun w1 H1 => ?_ | refine lenT_a ?_ | refine lenO_a ?_ | refine ixT_a ?_ | refine ixO_a ?_ | fail)
    rw [flatten_split hc1] at H
    have H : Hp w0 w (c1 ++ (⟨b3, 39, [I (e.1 : Int), I (e.2 : Int)]⟩ :: (cs4 ++ (cs3 ++ ((css.take (Prod.snd e)).flatten ++ ((css.drop (Prod.snd e + 1)).flatten ++ (⟨b, 25, [sb, se]⟩ :: L))))))) := H.re
    refine append_t elU H hsub spl hs4.tr csub (by simp; omega) (by simp; omega) fun w s5 cs5 H hs5 => ?_
    repeat (first | simp only [cI_enc, cE_enc, cN_enc, W0] | refine lss_a ?_ | refine lss_b ?_ | refine gtr_a ?_ | refine gtr_b ?_ | refine geq_a ?_ | refine geq_b ?_ | refine leq_a ?_ | refine leq_b ?_ | refine eql_a ?_ | refine eql_b ?_ | refine neq_a ?_ | refine neq_b ?_ | refine add_a ?_ | refine sub_a ?_ | refine ld_a ?_ | refine ldA_a ?_ | refine ldS_a ?_ | refine ldNS_a ?_ | refine rdA_s ?_ | refine rd1_s ?_ | refine drew_a fun w1 H1 => ?_ | refine st_a fun w1 H1 => ?_ | refine stA_a fun w1 H1 => ?_ | refine lenT_a ?_ | refine lenO_a ?_ | refine ixT_a ?_ | refine ixO_a ?_ | fail)
    obtain ⟨k5, rfl⟩ := hs5.sh
    have H : Hp w0 w (cs3 ++ (⟨b3, 39, [I (e.1 : Int), I (e.2 : Int)]⟩ :: (cs5 ++ ((css.take (Prod.snd e)).flatten ++ ((css.drop (Prod.snd e + 1)).flatten ++ (⟨b, 25, [sb, se]⟩ :: L)))))) := H.re
    refine ist1_t (C := cS) (x := k5) hN.top H spl (by rw [hN.hl, hlen]; exact hkey) rfl rfl fun w cs6 H hs6 => ?_
    repeat (first | simp only [cI_enc, cE_enc, cN_enc, W0] | refine lss_a ?_ | refine lss_b ?_ | refine gtr_a ?_ | refine gtr_b ?_ | refine geq_a ?_ | refine geq_b ?_ | refine leq_a ?_ | refine leq_b ?_ | refine eql_a ?_ | refine eql_b ?_ | refine neq_a ?_ | refine neq_b ?_ | refine add_a ?_ | refine sub_a ?_ | refine ld_a ?_ | refine ldA_a ?_ | refine ldS_a ?_ | refine ldNS_a ?_ | refine rdA_s ?_ | refine rd1_s ?_ | refine drew_a fun w1 H1 => ?_ | refine st_a fun w1 H1 => ?_ | refine stA_a fun w1 H1 => ?_ | refine lenT_a ?_ | refine lenO_a ?_ | refine ixT_a ?_ | refine ixO_a ?_ | fail)
    refine hk (m - 1) _ _ _ _ _ (by omega) ⟨i + 1, cs6, css.set (Prod.snd e) cs5, hs.set (Prod.snd e) k5, rfl, rfl, rfl, rfl, by omega, ?_, ?_⟩
    · rw [htk, adj_snoc hkey]
      exact hN.set (by rw [hlen]; exact hkey) hs6 hs5
    · rw [flatten_set hc1]
      exact H.re
  · repeat (first | simp only [cI_enc, cE_enc, cN_enc, W0] | refine lss_a ?_ | refine lss_b ?_ | refine gtr_a ?_ | refine gtr_b ?_ | refine geq_a ?_ | refine geq_b ?_ | refine leq_a ?_ | refine leq_b ?_ | refine eql_a ?_ | refine eql_b ?_ | refine neq_a ?_ | refine neq_b ?_ | refine add_a ?_ | refine sub_a ?_ | refine ld_a ?_ | refine ldA_a ?_ | refine ldS_a ?_ | refine ldNS_a ?_ | refine rdA_s ?_ | refine rd1_s ?_ | refine drew_a fun w1 H1 => ?_ | refine st_a fun w1 H1 => ?_ | refine stA_a fun w1 H1 => ?_ | refine lenT_a ?_ | refine lenO_a ?_ | refine ixT_a ?_ | refine ixO_a ?_ | fail)
    unfold F44_j1
    rw [List.take_of_length_le (by omega)] at hN
    exact ⟨_, cs3 ++ css.flatten, E', rfl, H.re, hN.nr, hperm, hE0⟩
end
end Go.Proofs.Ytagcifbfokneoaa.Den
end

section
set_option linter.unusedVariables false
set_option linter.unusedSimpArgs false
set_option maxRecDepth 8000
set_option maxHeartbeats 1000000
namespace Go.Proofs.Ytagcifbfokneoaa.Den
open Go Go.RowKit
section
variable {w w' w0 : World} {L L' F cs cs2 cs3 : List Chunk} {s s2 sb se sd : Value} {K : VK} {R : ER} {base d out : List Int} {E : List (Nat × Nat)} {n to i u x : Nat} {l : List Nat}
theorem adj_mem_w {a v : Nat} : a ∈ adjAt Prod.snd Prod.fst E v ↔ (a, v) ∈ E := by
  simp only [adjAt, List.mem_map, List.mem_filter, beq_iff_eq]
  constructor
  · rintro ⟨⟨p, q⟩, ⟨h1, h2⟩, h3⟩; simp only at h2 h3; subst h2; subst h3; exact h1
  · intro h; exact ⟨(a, v), ⟨h, rfl⟩, rfl⟩
theorem adj_mem_h {a v : Nat} : a ∈ adjAt Prod.fst Prod.snd E v ↔ (v, a) ∈ E := by
  simp only [adjAt, List.mem_map, List.mem_filter, beq_iff_eq]
  constructor
  · rintro ⟨⟨p, q⟩, ⟨h1, h2⟩, h3⟩; simp only at h2 h3; subst h2; subst h3; exact h1
  · intro h; exact ⟨(v, a), ⟨h, rfl⟩, rfl⟩
theorem adj_sorted {v : Nat} (h : Inc E) : (adjAt Prod.fst Prod.snd E v).Pairwise (· < ·) := by
  unfold adjAt
  rw [List.pairwise_map, List.pairwise_filter]
  refine h.imp ?_
  intro a b hab h1 h2
  simp only [ltN, decide_eq_true_eq] at hab
  simp only [beq_iff_eq] at h1 h2
  omega
structure Bf (E : List (Nat × Nat)) (n to i : Nat) (out : List Int) (l : List Nat) : Prop where
  len : out.length = n
  to0 : gt out to = 0
  val : ∀ v, v < n → gt out v < 0 → gt out v = -1
  why : ∀ v, v < n → 0 ≤ gt out v → ∃ k : Nat, gt out v = k ∧ PathN E k v to
  mem : ∀ v, v ∈ l ↔ v < n ∧ 0 ≤ gt out v
  nd : l.Nodup
  srt : l.Pairwise fun a b => gt out a ≤ gt out b
  cl : ∀ j u, j < i → l[j]? = some u → ∀ a, (a, u) ∈ E → 0 ≤ gt out a ∧ gt out a ≤ gt out u + 1
  bd : ∀ v ∈ l, gt out v < l.length
theorem gt_m1 {m : Nat} : ∀ {v : Nat}, v < m → gt (List.replicate m (-1)) v = -1 := fun h => gt_rep h
theorem Bf.start (h : to < n) : Bf E n to 0 ((List.replicate n (-1)).set to 0) [to] := by
  have g : ∀ v, v < n → gt ((List.replicate n (-1 : Int)).set to 0) v = if v = to then 0 else -1 := fun v hv => by
    rw [gt_set (by simpa using h), gt_m1 hv]
  refine ⟨by simp, by rw [g to h, if_pos rfl], fun v hv hn => ?_, fun v hv hn => ?_, fun v => ?_, by simp, by simp, fun j u hj => by omega, by
    intro v hv; simp at hv; subst hv; rw [g v h, if_pos rfl]; simp⟩
  · rw [g v hv] at hn ⊢; split at hn <;> simp_all
  · rw [g v hv] at hn ⊢
    split at hn
    · rename_i e; subst e; exact ⟨0, by simp, .zero _⟩
    · omega
  · rw [List.mem_singleton]
    constructor
    · rintro rfl; exact ⟨h, by rw [g v h, if_pos rfl]; omega⟩
    · rintro ⟨hv, h0⟩
      rw [g v hv] at h0
      split at h0
      · assumption
      · omega
theorem Bf.llen (h : Bf E n to i out l) : l.length ≤ n := nodup_lt n l h.nd fun x hx => ((h.mem x).1 hx).1
theorem Bf.add (h : Bf E n to i out l) (hu : l[i]? = some u) (htop : ∀ v ∈ l, gt out v ≤ gt out u + 1) (hx : x < n) (he : (x, u) ∈ E) (hneg : gt out x < 0) :
    Bf E n to i (out.set x (gt out u + 1)) (l ++ [x]) ∧ (l ++ [x])[i]? = some u ∧ (∀ v, v < n → 0 ≤ gt out v → gt (out.set x (gt out u + 1)) v = gt out v) ∧ gt (out.set x (gt out u + 1)) x = gt out u + 1 ∧ (∀ v ∈ l ++ [x], gt (out.set x (gt out u + 1)) v ≤ gt out u + 1) := by
  have hul : u ∈ l := List.mem_of_getElem? hu
  have hu0 := ((h.mem u).1 hul).2
  have g : ∀ v, gt (out.set x (gt out u + 1)) v = if v = x then gt out u + 1 else gt out v := fun v => gt_set (by rw [h.len]; exact hx)
  have gne : ∀ v, 0 ≤ gt out v → gt (out.set x (gt out u + 1)) v = gt out v := fun v hv => by
    rw [g, if_neg]; rintro rfl; omega
  have gl : ∀ v ∈ l, gt (out.set x (gt out u + 1)) v = gt out v := fun v hv => gne v ((h.mem v).1 hv).2
  have htop' : ∀ v ∈ l ++ [x], gt (out.set x (gt out u + 1)) v ≤ gt out u + 1 := by
    intro v hv
    rcases List.mem_append.1 hv with hv | hv
    · rw [gl v hv]; exact htop v hv
    · simp at hv; subst hv; rw [g, if_pos rfl]; omega
  have hil : i < l.length := (List.getElem?_eq_some_iff.1 hu).1
  refine ⟨⟨by simp [h.len], by rw [gne to (by rw [h.to0]; omega)]; exact h.to0, fun v hv hn => ?_, fun v hv hn => ?_, fun v => ?_, ?_, ?_, fun j u' hj hju a ha => ?_, fun v hv => by
    rw [List.length_append, List.length_singleton]
    have hub := h.bd u hul
    rcases List.mem_append.1 hv with hv | hv
    · rw [gl v hv]; have := h.bd v hv; omega
    · simp at hv; subst hv; rw [g, if_pos rfl]; omega⟩, by rw [List.getElem?_append_left hil]; exact hu, fun v _ hv => gne v hv, by rw [g, if_pos rfl], htop'⟩
  · rw [g] at hn ⊢
    split at hn
    · omega
    · rename_i e; rw [if_neg e]; exact h.val v hv hn
  · rw [g] at hn ⊢
    split at hn
    · rename_i e; subst e
      obtain ⟨k, ek, p⟩ := h.why u ((h.mem u).1 hul).1 hu0
      exact ⟨k + 1, by rw [if_pos rfl]; omega, .succ he p⟩
    · rename_i e; rw [if_neg e]; exact h.why v hv hn
  · rw [List.mem_append, h.mem, List.mem_singleton, g]
    by_cases e : v = x
    · subst e; simp only [if_true, or_true, true_iff]; exact ⟨hx, by omega⟩
    · rw [if_neg e]; simp [e]
  · rw [List.nodup_append]
    refine ⟨h.nd, by simp, fun a ha b hb => ?_⟩
    simp at hb; subst hb
    rintro rfl
    have := ((h.mem a).1 ha).2; omega
  · rw [List.pairwise_append]
    refine ⟨h.srt.imp_of_mem fun {a b} ha hb hab => by rw [gl a ha, gl b hb]; exact hab, by simp, fun a ha b hb => ?_⟩
    simp at hb; subst hb
    have : gt (out.set b (gt out u + 1)) b = gt out u + 1 := by rw [g, if_pos rfl]
    rw [this]
    exact htop' a (List.mem_append_left _ ha)
  · have hju' : l[j]? = some u' := by
      rw [List.getElem?_append_left (by omega)] at hju; exact hju
    obtain ⟨c1, c2⟩ := h.cl j u' hj hju' a ha
    have hu' := ((h.mem u').1 (List.mem_of_getElem? hju')).2
    rw [gne a c1, gne u' hu']
    exact ⟨c1, c2⟩
theorem Bf.next (h : Bf E n to i out l) (hu : l[i]? = some u) (hd : ∀ a, (a, u) ∈ E → 0 ≤ gt out a ∧ gt out a ≤ gt out u + 1) : Bf E n to (i + 1) out l :=
  { len := h.len, to0 := h.to0, val := h.val, why := h.why, mem := h.mem, nd := h.nd, srt := h.srt, cl := fun j u' hj hju a ha => by
      by_cases e : j = i
      · subst e; rw [hu] at hju; injection hju with hju; subst hju; exact hd a ha
      · exact h.cl j u' (by omega) hju a ha, bd := h.bd }
theorem Bf.top (h : Bf E n to i out l) (hu : l[i]? = some u) (htop : ∀ v ∈ l, gt out v ≤ gt out u + 1) {u' : Nat} (hu' : l[i + 1]? = some u') : ∀ v ∈ l, gt out v ≤ gt out u' + 1 := by
  intro v hv
  have h1 := htop v hv
  obtain ⟨p1, q1⟩ := List.getElem?_eq_some_iff.1 hu
  obtain ⟨p2, q2⟩ := List.getElem?_eq_some_iff.1 hu'
  have := List.pairwise_iff_getElem.1 h.srt i (i + 1) p1 p2 (by omega)
  rw [q1, q2] at this
  omega
theorem Bf.isD (h : Bf E n to l.length out l) (hV : Valid E n) : IsD E n to (gt out) := by
  refine IsD.of hV h.to0 (fun e he h0 => ?_) h.why h.val
  have hm : e.2 ∈ l := (h.mem _).2 ⟨(hV e he).2, h0⟩
  obtain ⟨j, hj, ej⟩ := List.getElem_of_mem hm
  exact h.cl j e.2 hj (by rw [List.getElem?_eq_getElem hj, ej]) e.1 he
theorem dist_spec {css : List Chunk} (h1 : NR cU w0 cs s (adj Prod.snd Prod.fst E n)) (H : Hp w0 w L) (m1 : ∀ c ∈ cs, c ∈ L) (hV : Valid E n) (hl : n ≤ 256) (hel : E.length ≤ 4000) (hto : to < n) :
    Calls Pg 43 ⟨[s, I to]⟩ w fun x w' => ∃ s cs d, x = .returned s ∧ Hp w0 w' (cs ++ L) ∧ TS cI 3 s d cs ∧ d.length = n ∧ IsD E n to (gt d) := by
  obtain ⟨hs, htop, hhl, hsub⟩ := h1
  have hhl' : hs.length = n := by rw [hhl, adj_len]
  apply F43_calls
  unfold F43
  repeat (first | simp only [cI_enc, cE_enc, cN_enc, W0] | refine lss_a ?_ | refine lss_b ?_ | refine gtr_a ?_ | refine gtr_b ?_ | refine geq_a ?_ | refine geq_b ?_ | refine leq_a ?_ | refine leq_b ?_ | refine eql_a ?_ | refine eql_b ?_ | refine neq_a ?_ | refine neq_b ?_ | refine add_a ?_ | refine sub_a ?_ | refine ld_a ?_ | refine ldA_a ?_ | refine ldS_a ?_ | refine ldNS_a ?_ | refine rdA_s ?_ | refine rd1_s ?_ | refine drew_a fun w1 H1 => ?_ | refine st_a fun w1 H1 => ?_ | refine stA_a fun w1 H1 => ?_ | refine lenT_a ?_ | refine lenO_a ?_ | refine ixT_a ?_ | refine ixO_a ?_ | fail)
  refine make_t (C := cI) (x := 0) elI rfl H (by rw [hhl']) (by omega) (by omega) fun w s0 cs0 H hs0 => ?_
  unfold F43_j14
  repeat (first | simp only [cI_enc, cE_enc, cN_enc, W0] | refine lss_a ?_ | refine lss_b ?_ | refine gtr_a ?_ | refine gtr_b ?_ | refine geq_a ?_ | refine geq_b ?_ | refine leq_a ?_ | refine leq_b ?_ | refine eql_a ?_ | refine eql_b ?_ | refine neq_a ?_ | refine neq_b ?_ | refine add_a ?_ | refine sub_a ?_ | refine ld_a ?_ | refine ldA_a ?_ | refine ldS_a ?_ | refine ldNS_a ?_ | refine rdA_s ?_ | refine rd1_s ?_ | refine drew_a fun w1 H1 => ?_ | refine st_a fun w1 H1 => ?_ | refine stA_a fun w1 H1 => ?_ | refine lenT_a ?_ | refine lenO_a ?_ | refine ixT_a ?_ | refine ixO_a ?_ | fail)
  rw [List.length_replicate]
  unfold F43_j15
  refine loop5 (F43_l3_succ _) (fun m x0 x1 x5 x15 x16 w => ∃ i : Nat, ∃ cs o, x0 = s ∧ x1 = I to ∧ x5 = s0 ∧ x15 = I n ∧ x16 = I i ∧ m + i = n ∧ o.length = n ∧ o.take i = List.replicate i (-1) ∧ TS cI 3 s0 o cs ∧ Hp w0 w (cs ++ L)) ?_ (m := n)
    ⟨0, cs0, _, rfl, rfl, rfl, rfl, rfl, by omega, by simp, by simp, hs0, H⟩
  clear H hs0
  rintro m k s _ s0 _ _ w ⟨i, cs0, o, rfl, rfl, rfl, rfl, rfl, hm, hol, hot, hs0, H⟩ hk
  unfold F43_b3
  refine lss_k (fun hi => ?_) (fun hi => ?_)
  · repeat (first | simp only [cI_enc, cE_enc, cN_enc, W0] | refine lss_a ?_ | refine lss_b ?_ | refine gtr_a ?_ | refine gtr_b ?_ | refine geq_a ?_ | refine geq_b ?_ | refine leq_a ?_ | refine leq_b ?_ | refine eql_a ?_ | refine eql_b ?_ | refine neq_a ?_ | refine neq_b ?_ | refine add_a ?_ | refine sub_a ?_ | refine ld_a ?_ | refine ldA_a ?_ | refine ldS_a ?_ | refine ldNS_a ?_ | refine rdA_s ?_ | refine rd1_s ?_ | refine drew_a fun w1 H1 => ?_ | refine st_a fun w1 H1 => ?_ | refine stA_a fun w1 H1 => ?_ | refine lenT_a ?_ | refine lenO_a ?_ | refine ixT_a ?_ | refine ixO_a ?_ | fail)
    refine ist1_t (C := cI) (x := -1) hs0 H spl (by omega) rfl rfl fun w cs0 H hs0 => ?_
    repeat (first | simp only [cI_enc, cE_enc, cN_enc, W0] | refine lss_a ?_ | refine lss_b ?_ | refine gtr_a ?_ | refine gtr_b ?_ | refine geq_a ?_ | refine geq_b ?_ | refine leq_a ?_ | refine leq_b ?_ | refine eql_a ?_ | refine eql_b ?_ | refine neq_a ?_ | refine neq_b ?_ | refine add_a ?_ | refine sub_a ?_ | refine ld_a ?_ | refine ldA_a ?_ | refine ldS_a ?_ | refine ldNS_a ?_ | refine rdA_s ?_ | refine rd1_s ?_ | refine drew_a fun w1 H1 => ?_ | refine st_a fun w1 H1 => ?_ | refine stA_a fun w1 H1 => ?_ | refine lenT_a ?_ | refine lenO_a ?_ | refine ixT_a ?_ | refine ixO_a ?_ | fail)
    refine hk (m - 1) _ _ _ _ _ _ (by omega) ⟨i + 1, cs0, _, rfl, rfl, rfl, rfl, rfl, by omega, by simp [hol], ?_, hs0, H⟩
    apply List.ext_getElem?; intro j
    by_cases hj : j < i + 1
    · rw [List.getElem?_take, if_pos hj]
      by_cases e : i = j
      · subst e; rw [List.getElem?_set_self (by omega)]; simp
      · rw [List.getElem?_set_ne e]
        have := congrArg (·[j]?) hot
        simp only [List.getElem?_take] at this
        rw [if_pos (by omega)] at this
        rw [this, List.getElem?_replicate, List.getElem?_replicate, if_pos (by omega), if_pos hj]
    · rw [List.getElem?_eq_none (by simp; omega), List.getElem?_eq_none (by simp; omega)]
  · repeat (first | simp only [cI_enc, cE_enc, cN_enc, W0] | refine lss_a ?_ | refine lss_b ?_ | refine gtr_a ?_ | refine gtr_b ?_ | refine geq_a ?_ | refine geq_b ?_ | refine leq_a ?_ | refine leq_b ?_ | refine eql_a ?_ | refine eql_b ?_ | refine neq_a ?_ | refine neq_b ?_ | refine add_a ?_ | refine sub_a ?_ | refine ld_a ?_ | refine ldA_a ?_ | refine ldS_a ?_ | refine ldNS_a ?_ | refine rdA_s ?_ | refine rd1_s ?_ | refine drew_a fun w1 H1 => ?_ | refine st_a fun w1 H1 => ?_ | refine stA_a fun w1 H1 => ?_ | refine lenT_a ?_ | refine lenO_a ?_ | refine ixT_a ?_ | refine ixO_a ?_ | fail)
    obtain rfl : i = n := by omega
    rw [List.take_of_length_le (by omega)] at hot
    subst hot
    unfold F43_j1
    refine ist1_t (C := cI) (x := 0) hs0 H spl (by simpa using hto) rfl rfl fun w cs0 H hs0 => ?_
    refine lit1_t (C := cU) (x := to) elU H rfl (by decide) fun w s1 cs1 H hs1 => ?_
    unfold F43_j3 F43_j4
    refine loop4 (F43_l2_succ _) (fun m x0 x5 x7 x8 w => ∃ j : Nat, ∃ cs0 cs1 o l s1, x0 = s ∧ x5 = s0 ∧ x7 = s1 ∧ x8 = I j ∧ m + j = i ∧ j ≤ l.length ∧ Bf E i to j o l ∧ (∀ u, l[j]? = some u → ∀ v ∈ l, gt o v ≤ gt o u + 1) ∧ TS cI 3 s0 o cs0 ∧ TS cU 3 s1 l cs1 ∧ Hp w0 w (cs1 ++ (cs0 ++ L))) ?_ (m := i)
      ⟨0, cs0, cs1, _, _, _, rfl, rfl, rfl, rfl, by omega, by simp, Bf.start hto, ?_, hs0, hs1, H⟩
    rotate_left
    · intro u hu v hv
      simp only [List.getElem?_cons_zero, Option.some.injEq] at hu; subst hu
      simp at hv; subst hv; omega
    clear hk
    rintro m k s s0 _ _ w ⟨j, cs0, cs1, o, l, s1, rfl, rfl, rfl, rfl, hm, hjl, hB, htp, hs0, hs1, H⟩ hk
    have hll := hB.llen
    unfold F43_b1
    repeat (first | simp only [cI_enc, cE_enc, cN_enc, W0] | refine lss_a ?_ | refine lss_b ?_ | refine gtr_a ?_ | refine gtr_b ?_ | refine geq_a ?_ | refine geq_b ?_ | refine leq_a ?_ | refine leq_b ?_ | refine eql_a ?_ | refine eql_b ?_ | refine neq_a ?_ | refine neq_b ?_ | refine add_a ?_ | refine sub_a ?_ | refine ld_a ?_ | refine ldA_a ?_ | refine ldS_a ?_ | refine ldNS_a ?_ | refine rdA_s ?_ | refine rd1_s ?_ | refine drew_a fun w1 H1 => ?_ | refine st_a fun w1 H1 => ?_ | refine stA_a fun w1 H1 => ?_ | refine lenT_a ?_ | refine lenO_a ?_ | refine ixT_a ?_ | refine ixO_a ?_ | fail)
    refine lss_k (fun hi => ?_) (fun hi => ?_)
    · obtain ⟨u, hu⟩ : ∃ u, l[j]? = some u := ⟨_, List.getElem?_eq_getElem (by omega)⟩
      have hun := (hB.mem u).1 (List.mem_of_getElem? hu)
      obtain ⟨ku, hku⟩ : ∃ ku, hs[u]? = some ku := ⟨_, List.getElem?_eq_getElem (by omega)⟩
      have hw := hsub u ku _ hku (adj_get hun.1)
      have hwl : (adjAt Prod.snd Prod.fst E u).length ≤ 4000 := adjAt_len hel
      unfold F43_j5 F43_j7
      refine ix1_t (C := cU) (TS.tr hs1) H csub hu rfl rfl ?_
      refine ix1_t (C := cS) htop H csub hku rfl rfl ?_
      repeat (first | simp only [cI_enc, cE_enc, cN_enc, W0] | refine lss_a ?_ | refine lss_b ?_ | refine gtr_a ?_ | refine gtr_b ?_ | refine geq_a ?_ | refine geq_b ?_ | refine leq_a ?_ | refine leq_b ?_ | refine eql_a ?_ | refine eql_b ?_ | refine neq_a ?_ | refine neq_b ?_ | refine add_a ?_ | refine sub_a ?_ | refine ld_a ?_ | refine ldA_a ?_ | refine ldS_a ?_ | refine ldNS_a ?_ | refine rdA_s ?_ | refine rd1_s ?_ | refine drew_a fun w1 H1 => ?_ | refine st_a fun w1 H1 => ?_ | refine stA_a fun w1 H1 => ?_ | refine lenT_a ?_ | refine lenO_a ?_ | refine ixT_a ?_ | refine ixO_a ?_ | fail)
      unfold F43_j8
      refine loop7 (F43_l1_succ _ _) (fun m x0 x5 x7 x8 x40 x41 x42 w => ∃ q : Nat, ∃ cs0 cs1 o l s1, x0 = s ∧ x5 = s0 ∧ x7 = s1 ∧ x8 = I j ∧ x40 = ku.val ∧ x41 = I ((adjAt Prod.snd Prod.fst E u).length : Int) ∧ x42 = I q ∧ m + q = (adjAt Prod.snd Prod.fst E u).length ∧ Bf E i to j o l ∧ l[j]? = some u ∧ (∀ v ∈ l, gt o v ≤ gt o u + 1) ∧
          (∀ a ∈ (adjAt Prod.snd Prod.fst E u).take q, 0 ≤ gt o a ∧ gt o a ≤ gt o u + 1) ∧ TS cI 3 s0 o cs0 ∧ TS cU 3 s1 l cs1 ∧ Hp w0 w (cs1 ++ (cs0 ++ L))) ?_ (m := (adjAt Prod.snd Prod.fst E u).length)
        ⟨0, cs0, cs1, o, l, _, rfl, rfl, rfl, rfl, rfl, rfl, rfl, rfl, hB, hu, htp u hu, by simp, hs0, hs1, H⟩
      clear H hs0 hs1 hB htp hu hjl hll hun
      rintro mm k2 s s0 _ _ _ _ _ w ⟨q, cs0, cs1, o, l, s1, rfl, rfl, rfl, rfl, rfl, rfl, rfl, hmm, hB, hu, htp, hdn, hs0, hs1, H⟩ hk2
      have hll := hB.llen
      have hun := (hB.mem u).1 (List.mem_of_getElem? hu)
      have huo : o[u]? = some (gt o u) := gt_some (by rw [hB.len]; exact hun.1)
      unfold F43_b2
      refine lss_k (fun hq => ?_) (fun hq => ?_)
      · have hx : (adjAt Prod.snd Prod.fst E u)[q]? = some (adjAt Prod.snd Prod.fst E u)[q] := List.getElem?_eq_getElem (by omega)
        have hmem : (adjAt Prod.snd Prod.fst E u)[q] ∈ adjAt Prod.snd Prod.fst E u := List.getElem_mem _
        have htk : (adjAt Prod.snd Prod.fst E u).take (q + 1) = (adjAt Prod.snd Prod.fst E u).take q ++ [(adjAt Prod.snd Prod.fst E u)[q]] := by rw [List.take_add_one, hx]; rfl
        generalize (adjAt Prod.snd Prod.fst E u)[q] = x at hx hmem htk
        have hxe := adj_mem_w.1 hmem
        have hxn := (hV _ hxe).1
        have hxo : o[x]? = some (gt o x) := gt_some (by rw [hB.len]; exact hxn)
        unfold F43_j9 F43_j11
        repeat (first | simp only [cI_enc, cE_enc, cN_enc, W0] | refine lss_a ?_ | refine lss_b ?_ | refine gtr_a ?_ | refine gtr_b ?_ | refine geq_a ?_ | refine geq_b ?_ | refine leq_a ?_ | refine leq_b ?_ | refine eql_a ?_ | refine eql_b ?_ | refine neq_a ?_ | refine neq_b ?_ | refine add_a ?_ | refine sub_a ?_ | refine ld_a ?_ | refine ldA_a ?_ | refine ldS_a ?_ | refine ldNS_a ?_ | refine rdA_s ?_ | refine rd1_s ?_ | refine drew_a fun w1 H1 => ?_ | refine st_a fun w1 H1 => ?_ | refine stA_a fun w1 H1 => ?_ | refine lenT_a ?_ | refine lenO_a ?_ | refine ixT_a ?_ | refine ixO_a ?_ | fail)
        refine lss_k (fun hg => ?_) (fun hg => ?_)
        · have hgle : gt o u ≤ i := by
            have := hB.bd u (List.mem_of_getElem? hu)
            omega
          unfold F43_j12 F43_j13
          repeat (first | simp only [cI_enc, cE_enc, cN_enc, W0] | refine lss_a ?_ | refine lss_b ?_ | refine gtr_a ?_ | refine gtr_b ?_ | refine geq_a ?_ | refine geq_b ?_ | refine leq_a ?_ | refine leq_b ?_ | refine eql_a ?_ | refine eql_b ?_ | refine neq_a ?_ | refine neq_b ?_ | refine add_a ?_ | refine sub_a ?_ | refine ld_a ?_ | refine ldA_a ?_ | refine ldS_a ?_ | refine ldNS_a ?_ | refine rdA_s ?_ | refine rd1_s ?_ | refine drew_a fun w1 H1 => ?_ | refine st_a fun w1 H1 => ?_ | refine stA_a fun w1 H1 => ?_ | refine lenT_a ?_ | refine lenO_a ?_ | refine ixT_a ?_ | refine ixO_a ?_ | fail)
          obtain ⟨a1, a2, a3, a4, a5⟩ := hB.add hu htp hxn hxe hg
          refine ist1_t (C := cI) (x := gt o u + 1) hs0 H spl (by rw [hB.len]; exact hxn) rfl rfl fun w cs0 H hs0 => ?_
          refine app1_t (x := x) elU H hs1 spl rfl (by decide) (by omega) (by omega) fun w s2 cs2 H hs2 => ?_
          unfold F43_j10
          repeat (first | simp only [cI_enc, cE_enc, cN_enc, W0] | refine lss_a ?_ | refine lss_b ?_ | refine gtr_a ?_ | refine gtr_b ?_ | refine geq_a ?_ | refine geq_b ?_ | refine leq_a ?_ | refine leq_b ?_ | refine eql_a ?_ | refine eql_b ?_ | refine neq_a ?_ | refine neq_b ?_ | refine add_a ?_ | refine sub_a ?_ | refine ld_a ?_ | refine ldA_a ?_ | refine ldS_a ?_ | refine ldNS_a ?_ | refine rdA_s ?_ | refine rd1_s ?_ | refine drew_a fun w1 H1 => ?_ | refine st_a fun w1 H1 => ?_ | refine stA_a fun w1 H1 => ?_ | refine lenT_a ?_ | refine lenO_a ?_ | refine ixT_a ?_ | refine ixO_a ?_ | fail)
          refine hk2 (mm - 1) _ _ _ _ _ _ _ _ (by omega) ⟨q + 1, cs0, cs2, _, _, _, rfl, rfl, rfl, rfl, rfl, rfl, rfl, by omega, a1, a2, ?_, ?_, hs0, hs2, H.re⟩
          · intro v hv; rw [a3 u hun.1 hun.2]; exact a5 v hv
          · rw [htk, a3 u hun.1 hun.2]
            intro a ha
            rcases List.mem_append.1 ha with ha | ha
            · have := hdn a ha
              have haE := adj_mem_w.1 (List.mem_of_mem_take ha)
              rw [a3 a (hV _ haE).1 this.1]; exact this
            · simp at ha; subst ha; rw [a4]; omega
        · unfold F43_j12 F43_j10
          repeat (first | simp only [cI_enc, cE_enc, cN_enc, W0] | refine lss_a ?_ | refine lss_b ?_ | refine gtr_a ?_ | refine gtr_b ?_ | refine geq_a ?_ | refine geq_b ?_ | refine leq_a ?_ | refine leq_b ?_ | refine eql_a ?_ | refine eql_b ?_ | refine neq_a ?_ | refine neq_b ?_ | refine add_a ?_ | refine sub_a ?_ | refine ld_a ?_ | refine ldA_a ?_ | refine ldS_a ?_ | refine ldNS_a ?_ | refine rdA_s ?_ | refine rd1_s ?_ | refine drew_a fun w1 H1 => ?_ | refine st_a fun w1 H1 => ?_ | refine stA_a fun w1 H1 => ?_ | refine lenT_a ?_ | refine lenO_a ?_ | refine ixT_a ?_ | refine ixO_a ?_ | fail)
          refine hk2 (mm - 1) _ _ _ _ _ _ _ _ (by omega) ⟨q + 1, cs0, cs1, _, _, _, rfl, rfl, rfl, rfl, rfl, rfl, rfl, by omega, hB, hu, htp, ?_, hs0, hs1, H⟩
          rw [htk]
          intro a ha
          rcases List.mem_append.1 ha with ha | ha
          · exact hdn a ha
          · simp at ha; subst ha
            have : a ∈ l := (hB.mem a).2 ⟨hxn, by omega⟩
            exact ⟨by omega, htp a this⟩
      · repeat (first | simp only [cI_enc, cE_enc, cN_enc, W0] | refine lss_a ?_ | refine lss_b ?_ | refine gtr_a ?_ | refine gtr_b ?_ | refine geq_a ?_ | refine geq_b ?_ | refine leq_a ?_ | refine leq_b ?_ | refine eql_a ?_ | refine eql_b ?_ | refine neq_a ?_ | refine neq_b ?_ | refine add_a ?_ | refine sub_a ?_ | refine ld_a ?_ | refine ldA_a ?_ | refine ldS_a ?_ | refine ldNS_a ?_ | refine rdA_s ?_ | refine rd1_s ?_ | refine drew_a fun w1 H1 => ?_ | refine st_a fun w1 H1 => ?_ | refine stA_a fun w1 H1 => ?_ | refine lenT_a ?_ | refine lenO_a ?_ | refine ixT_a ?_ | refine ixO_a ?_ | fail)
        rw [List.take_of_length_le (by omega)] at hdn
        have hjl := (List.getElem?_eq_some_iff.1 hu).1
        exact hk (m - 1) _ _ _ _ _ (by omega) ⟨j + 1, cs0, cs1, o, l, _, rfl, rfl, rfl, rfl, by omega, by omega, hB.next hu fun a ha => hdn a (adj_mem_w.2 ha), fun u' hu' => hB.top hu htp hu', hs0, hs1, H⟩
    · repeat (first | simp only [cI_enc, cE_enc, cN_enc, W0] | refine lss_a ?_ | refine lss_b ?_ | refine gtr_a ?_ | refine gtr_b ?_ | refine geq_a ?_ | refine geq_b ?_ | refine leq_a ?_ | refine leq_b ?_ | refine eql_a ?_ | refine eql_b ?_ | refine neq_a ?_ | refine neq_b ?_ | refine add_a ?_ | refine sub_a ?_ | refine ld_a ?_ | refine ldA_a ?_ | refine ldS_a ?_ | refine ldNS_a ?_ | refine rdA_s ?_ | refine rd1_s ?_ | refine drew_a fun w1 H1 => ?_ | refine st_a fun w1 H1 => ?_ | refine stA_a fun w1 H1 => ?_ | refine lenT_a ?_ | refine lenO_a ?_ | refine ixT_a ?_ | refine ixO_a ?_ | fail)
      unfold F43_j2
      obtain rfl : j = l.length := by omega
      exact ⟨_, cs0, o, rfl, H.re, hs0, hB.len, hB.isD hV⟩
end
end Go.Proofs.Ytagcifbfokneoaa.Den
end

section
set_option linter.unusedVariables false
set_option linter.unusedSimpArgs false
set_option maxRecDepth 8000
namespace Go.Proofs.Ytagcifbfokneoaa.Den
open Go Go.RowKit
section
variable {w w' w0 : World} {L L' F cs cs2 cs3 : List Chunk} {s s2 sb se sd : Value} {K : VK} {R : ER} {base d out : List Int} {E E' : List (Nat × Nat)} {n to i u x : Nat} {l : List Nat}
/-- The first of the holders in a list that is nearest. -/
theorem walk_nxt {f : Nat → Int} {k v j t : Nat} (hp : E'.Perm E) (hi : Inc E') (hV : Valid E n) (hj : (adjAt Prod.fst Prod.snd E' v)[j]? = some t) (hf : f t = k) (hb : ∀ y ∈ (adjAt Prod.fst Prod.snd E' v).take j, f y ≠ k) : nxt E n f k v = t := by
  have hmem := List.mem_of_getElem? hj
  have hE := hp.subset (adj_mem_h.1 hmem)
  refine nxt_eq (hV _ hE).2 hf hE fun u hu hh => ?_
  have hu' : u ∈ adjAt Prod.fst Prod.snd E' v := adj_mem_h.2 (hp.symm.subset hh.2)
  obtain ⟨q, hq, eq⟩ := List.getElem_of_mem hu'
  obtain ⟨hjl, ej⟩ := List.getElem?_eq_some_iff.1 hj
  have hs := List.pairwise_iff_getElem.1 (adj_sorted (v := v) hi)
  have hqj : q < j := by
    rcases Nat.lt_trichotomy q j with h | h | h
    · exact h
    · subst h; rw [ej] at eq; omega
    · have := hs j q hjl hq h; rw [ej, eq] at this; omega
  refine hb u ?_ hh.1
  rw [← eq]
  exact List.mem_take_iff_getElem.2 ⟨q, by omega, rfl⟩
theorem walk_spec {v m : Nat} (h0 : TS cU 3 s [v] cs) (h1 : NR cU w0 cs2 s2 (adj Prod.fst Prod.snd E' n)) (h2 : TR cI w0 cs3 sd d) (H : Hp w0 w (cs ++ L)) (m2 : ∀ c ∈ cs2, c ∈ L) (m3 : ∀ c ∈ cs3, c ∈ L)
    (hp : E'.Perm E) (hi : Inc E') (hV : Valid E n) (hl : n ≤ 256) (hel : E.length ≤ 4000) (hv : v < n) (hdl : d.length = n) (hD : IsD E n to (gt d)) (hml : m ≤ 300) (hex : m = 0 ∨ ∃ t, (v, t) ∈ E ∧ gt d t = (m : Int) - 1) :
    Calls Pg 45 ⟨[s, s2, sd, I m]⟩ w fun x w' => ∃ s cs, x = .returned s ∧ Hp w0 w' (cs ++ L) ∧ TS cU 3 s (chainP E n (gt d) m v) cs := by
  obtain ⟨hs, htop, hhl, hsub⟩ := h1
  have hhl' : hs.length = n := by rw [hhl, adj_len]
  apply F45_calls
  unfold F45 F45_j2
  refine loop4 (F45_l2_succ _) (fun r x0 x1 x2 x3 w => ∃ s cs l y, x0 = s ∧ x1 = s2 ∧ x2 = sd ∧ x3 = I (r : Int) ∧ y < n ∧ l.length + r = m ∧ (l ++ [y]) ++ (chainP E n (gt d) r y).tail = chainP E n (gt d) m v ∧ (r = 0 ∨ ∃ t, (y, t) ∈ E ∧ gt d t = (r : Int) - 1) ∧ TS cU 3 s (l ++ [y]) cs ∧ Hp w0 w (cs ++ L)) ?_ (m := m)
    ⟨_, cs, [], v, rfl, rfl, rfl, rfl, hv, by simp, by rw [List.nil_append, List.singleton_append]; exact chain_ne.symm, hex, h0, H⟩
  clear H h0 hex hv
  rintro r k s s2 sd _ w ⟨_, cs, l, y, rfl, rfl, rfl, rfl, hy, hlr, hch, hex, h0, H⟩ hk
  unfold F45_b1
  cases r with
  | zero =>
    repeat (first | simp only [cI_enc, cE_enc, cN_enc, W0] | refine lss_a ?_ | refine lss_b ?_ | refine gtr_a ?_ | refine gtr_b ?_ | refine geq_a ?_ | refine geq_b ?_ | refine leq_a ?_ | refine leq_b ?_ | refine eql_a ?_ | refine eql_b ?_ | refine neq_a ?_ | refine neq_b ?_ | refine add_a ?_ | refine sub_a ?_ | refine ld_a ?_ | refine ldA_a ?_ | refine ldS_a ?_ | refine ldNS_a ?_ | refine rdA_s ?_ | refine rd1_s ?_ | refine drew_a fun w1 H1 => ?_ | refine st_a fun w1 H1 => ?_ | refine stA_a fun w1 H1 => ?_ | refine lenT_a ?_ | refine lenO_a ?_ | refine ixT_a ?_ | refine ixO_a ?_ | fail)
    unfold F45_j1
    simp only [chainP, List.tail_cons, List.append_nil] at hch
    rw [← hch]
    exact ⟨_, cs, rfl, H, h0⟩
  | succ r =>
    have hex : ∃ t, (y, t) ∈ E ∧ gt d t = r := by
      rcases hex with h | ⟨t, h1, h2⟩
      · omega
      · exact ⟨t, h1, by omega⟩
    refine gtr_y (by omega) ?_
    unfold F45_j3 F45_j5
    repeat (first | simp only [cI_enc, cE_enc, cN_enc, W0] | refine lss_a ?_ | refine lss_b ?_ | refine gtr_a ?_ | refine gtr_b ?_ | refine geq_a ?_ | refine geq_b ?_ | refine leq_a ?_ | refine leq_b ?_ | refine eql_a ?_ | refine eql_b ?_ | refine neq_a ?_ | refine neq_b ?_ | refine add_a ?_ | refine sub_a ?_ | refine ld_a ?_ | refine ldA_a ?_ | refine ldS_a ?_ | refine ldNS_a ?_ | refine rdA_s ?_ | refine rd1_s ?_ | refine drew_a fun w1 H1 => ?_ | refine st_a fun w1 H1 => ?_ | refine stA_a fun w1 H1 => ?_ | refine lenT_a ?_ | refine lenO_a ?_ | refine ixT_a ?_ | refine ixO_a ?_ | fail)
    have hlast : (l ++ [y])[l.length]? = some y := by simp
    have e1 : (((l ++ [y]).length : Nat) : Int) - 1 = (l.length : Int) := by simp
    have hl4 : l.length ≤ 300 := by omega
    refine sub_k (by simp only [List.length_append, List.length_singleton]; omega) (by simp only [List.length_append, List.length_singleton]; omega) e1 ?_
    obtain ⟨ky, hky⟩ : ∃ ky, hs[y]? = some ky := ⟨_, List.getElem?_eq_getElem (by omega)⟩
    have hw := hsub y ky _ hky (adj_get hy)
    have hwl : (adjAt Prod.fst Prod.snd E' y).length ≤ 4000 := adjAt_len (by rw [hp.length_eq]; exact hel)
    refine ix1_t (C := cU) (TS.tr h0) H csub hlast rfl rfl ?_
    refine ix1_t (C := cS) htop H csub hky rfl rfl ?_
    repeat (first | simp only [cI_enc, cE_enc, cN_enc, W0] | refine lss_a ?_ | refine lss_b ?_ | refine gtr_a ?_ | refine gtr_b ?_ | refine geq_a ?_ | refine geq_b ?_ | refine leq_a ?_ | refine leq_b ?_ | refine eql_a ?_ | refine eql_b ?_ | refine neq_a ?_ | refine neq_b ?_ | refine add_a ?_ | refine sub_a ?_ | refine ld_a ?_ | refine ldA_a ?_ | refine ldS_a ?_ | refine ldNS_a ?_ | refine rdA_s ?_ | refine rd1_s ?_ | refine drew_a fun w1 H1 => ?_ | refine st_a fun w1 H1 => ?_ | refine stA_a fun w1 H1 => ?_ | refine lenT_a ?_ | refine lenO_a ?_ | refine ixT_a ?_ | refine ixO_a ?_ | fail)
    unfold F45_j6
    refine loop7 (F45_l1_succ _ _) (fun q x0 x1 x2 x3 x25 x26 x27 w => ∃ j : Nat, x0 = s ∧ x1 = s2 ∧ x2 = sd ∧ x3 = I ((r : Int) + 1) ∧ x25 = ky.val ∧ x26 = I ((adjAt Prod.fst Prod.snd E' y).length : Int) ∧ x27 = I j ∧ q + j = (adjAt Prod.fst Prod.snd E' y).length ∧ (∀ z ∈ (adjAt Prod.fst Prod.snd E' y).take j, gt d z ≠ r) ∧ Hp w0 w (cs ++ L)) ?_ (m := (adjAt Prod.fst Prod.snd E' y).length)
      ⟨0, rfl, rfl, rfl, rfl, rfl, rfl, rfl, rfl, by simp, H⟩
    clear H
    rintro q k2 s s2 sd _ _ _ _ w ⟨j, rfl, rfl, rfl, rfl, rfl, rfl, rfl, hq, hno, H⟩ hk2
    unfold F45_b2
    refine lss_k (fun hj => ?_) (fun hj => ?_)
    · have hx : (adjAt Prod.fst Prod.snd E' y)[j]? = some (adjAt Prod.fst Prod.snd E' y)[j] := List.getElem?_eq_getElem (by omega)
      have htk : (adjAt Prod.fst Prod.snd E' y).take (j + 1) = (adjAt Prod.fst Prod.snd E' y).take j ++ [(adjAt Prod.fst Prod.snd E' y)[j]] := by rw [List.take_add_one, hx]; rfl
      generalize (adjAt Prod.fst Prod.snd E' y)[j] = t at hx htk
      have htE := hp.subset (adj_mem_h.1 (List.mem_of_getElem? hx))
      have htn := (hV _ htE).2
      have htd : d[t]? = some (gt d t) := gt_some (by omega)
      unfold F45_j7
      repeat (first | simp only [cI_enc, cE_enc, cN_enc, W0] | refine lss_a ?_ | refine lss_b ?_ | refine gtr_a ?_ | refine gtr_b ?_ | refine geq_a ?_ | refine geq_b ?_ | refine leq_a ?_ | refine leq_b ?_ | refine eql_a ?_ | refine eql_b ?_ | refine neq_a ?_ | refine neq_b ?_ | refine add_a ?_ | refine sub_a ?_ | refine ld_a ?_ | refine ldA_a ?_ | refine ldS_a ?_ | refine ldNS_a ?_ | refine rdA_s ?_ | refine rd1_s ?_ | refine drew_a fun w1 H1 => ?_ | refine st_a fun w1 H1 => ?_ | refine stA_a fun w1 H1 => ?_ | refine lenT_a ?_ | refine lenO_a ?_ | refine ixT_a ?_ | refine ixO_a ?_ | fail)
      refine eql_k (fun hg => ?_) (fun hg => ?_)
      · repeat (first | simp only [cI_enc, cE_enc, cN_enc, W0] | refine lss_a ?_ | refine lss_b ?_ | refine gtr_a ?_ | refine gtr_b ?_ | refine geq_a ?_ | refine geq_b ?_ | refine leq_a ?_ | refine leq_b ?_ | refine eql_a ?_ | refine eql_b ?_ | refine neq_a ?_ | refine neq_b ?_ | refine add_a ?_ | refine sub_a ?_ | refine ld_a ?_ | refine ldA_a ?_ | refine ldS_a ?_ | refine ldNS_a ?_ | refine rdA_s ?_ | refine rd1_s ?_ | refine drew_a fun w1 H1 => ?_ | refine st_a fun w1 H1 => ?_ | refine stA_a fun w1 H1 => ?_ | refine lenT_a ?_ | refine lenO_a ?_ | refine ixT_a ?_ | refine ixO_a ?_ | fail)
        refine app1_t (x := t) elU H h0 spl rfl (by decide) (by simp; omega) (by simp; omega) fun w s5 cs5 H h5 => ?_
        unfold F45_j4
        repeat (first | simp only [cI_enc, cE_enc, cN_enc, W0] | refine lss_a ?_ | refine lss_b ?_ | refine gtr_a ?_ | refine gtr_b ?_ | refine geq_a ?_ | refine geq_b ?_ | refine leq_a ?_ | refine leq_b ?_ | refine eql_a ?_ | refine eql_b ?_ | refine neq_a ?_ | refine neq_b ?_ | refine add_a ?_ | refine sub_a ?_ | refine ld_a ?_ | refine ldA_a ?_ | refine ldS_a ?_ | refine ldNS_a ?_ | refine rdA_s ?_ | refine rd1_s ?_ | refine drew_a fun w1 H1 => ?_ | refine st_a fun w1 H1 => ?_ | refine stA_a fun w1 H1 => ?_ | refine lenT_a ?_ | refine lenO_a ?_ | refine ixT_a ?_ | refine ixO_a ?_ | fail)
        have e2 : (r : Int) + 1 - 1 = (r : Int) := by omega
        rw [e2]
        refine hk r _ _ _ _ _ (by omega) ⟨_, cs5, l ++ [y], t, rfl, rfl, rfl, rfl, htn, by simp; omega, ?_, ?_, h5, H⟩
        · rw [← hch, chainP, List.tail_cons, walk_nxt hp hi hV hx (by omega) hno, List.append_assoc (l ++ [y]), List.singleton_append, ← chain_ne]
        · cases r with
          | zero => exact .inl rfl
          | succ r =>
            have hg' : gt d t = (r : Int) + 1 := by omega
            obtain ⟨t', _, h2, h3, _⟩ := hD.least hV htn (k := r) hg'
            exact .inr ⟨t', h3, by omega⟩
      · repeat (first | simp only [cI_enc, cE_enc, cN_enc, W0] | refine lss_a ?_ | refine lss_b ?_ | refine gtr_a ?_ | refine gtr_b ?_ | refine geq_a ?_ | refine geq_b ?_ | refine leq_a ?_ | refine leq_b ?_ | refine eql_a ?_ | refine eql_b ?_ | refine neq_a ?_ | refine neq_b ?_ | refine add_a ?_ | refine sub_a ?_ | refine ld_a ?_ | refine ldA_a ?_ | refine ldS_a ?_ | refine ldNS_a ?_ | refine rdA_s ?_ | refine rd1_s ?_ | refine drew_a fun w1 H1 => ?_ | refine st_a fun w1 H1 => ?_ | refine stA_a fun w1 H1 => ?_ | refine lenT_a ?_ | refine lenO_a ?_ | refine ixT_a ?_ | refine ixO_a ?_ | fail)
        refine hk2 (q - 1) _ _ _ _ _ _ _ _ (by omega) ⟨j + 1, rfl, rfl, rfl, rfl, rfl, rfl, rfl, by omega, ?_, H⟩
        rw [htk]
        intro z hz
        rcases List.mem_append.1 hz with hz | hz
        · exact hno z hz
        · simp at hz; subst hz; omega
    · exfalso
      obtain ⟨t, h1, h2⟩ := hex
      rw [List.take_of_length_le (by omega)] at hno
      exact hno t (adj_mem_h.2 (hp.symm.subset h1)) h2
/-- What is kept while work is left. -/
theorem raise_spec {h : Nat} {p : Int} {bo bw : Nat} {so sw : Value} {work : List Nat} {co cw : List Chunk} (ho : TS cI 3 so out co) (hw : TS cU 3 sw work cw) (hh : h < out.length) (hwl : work.length ≤ 200000)
    (H : Hp w0 w (⟨bo, 22, [so]⟩ :: ⟨bw, 22, [sw]⟩ :: (co ++ (cw ++ L)))) :
    Calls Pg 59 ⟨[] ++ [I h, I p] ++ [ptr bo 0, ptr bw 0]⟩ w fun x w' => x = .returned (.tuple ⟨[]⟩) ∧
      if gt out h < p then ∃ sw' co' cw', TS cI 3 so (out.set h p) co' ∧ TS cU 3 sw' (work ++ [h]) cw' ∧ Hp w0 w' (⟨bo, 22, [so]⟩ :: ⟨bw, 22, [sw']⟩ :: (co' ++ (cw' ++ L)))
      else Hp w0 w' (⟨bo, 22, [so]⟩ :: ⟨bw, 22, [sw]⟩ :: (co ++ (cw ++ L))) := by
  have hx : out[h]? = some (gt out h) := gt_some hh
  apply F59_calls
  unfold F59
  repeat (first | simp only [cI_enc, cE_enc, cN_enc, W0] | refine lss_a ?_ | refine lss_b ?_ | refine gtr_a ?_ | refine gtr_b ?_ | refine geq_a ?_ | refine geq_b ?_ | refine leq_a ?_ | refine leq_b ?_ | refine eql_a ?_ | refine eql_b ?_ | refine neq_a ?_ | refine neq_b ?_ | refine add_a ?_ | refine sub_a ?_ | refine ld_a ?_ | refine ldA_a ?_ | refine ldS_a ?_ | refine ldNS_a ?_ | refine rdA_s ?_ | refine rd1_s ?_ | refine drew_a fun w1 H1 => ?_ | refine st_a fun w1 H1 => ?_ | refine stA_a fun w1 H1 => ?_ | refine lenT_a ?_ | refine lenO_a ?_ | refine ixT_a ?_ | refine ixO_a ?_ | fail)
  refine lss_k (fun hg => ?_) (fun hg => ?_)
  · repeat (first | simp only [cI_enc, cE_enc, cN_enc, W0] | refine lss_a ?_ | refine lss_b ?_ | refine gtr_a ?_ | refine gtr_b ?_ | refine geq_a ?_ | refine geq_b ?_ | refine leq_a ?_ | refine leq_b ?_ | refine eql_a ?_ | refine eql_b ?_ | refine neq_a ?_ | refine neq_b ?_ | refine add_a ?_ | refine sub_a ?_ | refine ld_a ?_ | refine ldA_a ?_ | refine ldS_a ?_ | refine ldNS_a ?_ | refine rdA_s ?_ | refine rd1_s ?_ | refine drew_a fun w1 H1 => ?_ | refine st_a fun w1 H1 => ?_ | refine stA_a fun w1 H1 => ?_ | refine lenT_a ?_ | refine lenO_a ?_ | refine ixT_a ?_ | refine ixO_a ?_ | fail)
    refine ist1_t (C := cI) (x := p) ho H spl hh rfl rfl fun w co' H ho' => ?_
    have H : Hp w0 w (⟨bo, 22, [so]⟩ :: ⟨bw, 22, [sw]⟩ :: (co' ++ (cw ++ L))) := H.re
    repeat (first | simp only [cI_enc, cE_enc, cN_enc, W0] | refine lss_a ?_ | refine lss_b ?_ | refine gtr_a ?_ | refine gtr_b ?_ | refine geq_a ?_ | refine geq_b ?_ | refine leq_a ?_ | refine leq_b ?_ | refine eql_a ?_ | refine eql_b ?_ | refine neq_a ?_ | refine neq_b ?_ | refine add_a ?_ | refine sub_a ?_ | refine ld_a ?_ | refine ldA_a ?_ | refine ldS_a ?_ | refine ldNS_a ?_ | refine rdA_s ?_ | refine rd1_s ?_ | refine drew_a fun w1 H1 => ?_ | refine st_a fun w1 H1 => ?_ | refine stA_a fun w1 H1 => ?_ | refine lenT_a ?_ | refine lenO_a ?_ | refine ixT_a ?_ | refine ixO_a ?_ | fail)
    refine app1_t (x := h) elU H hw spl rfl (by decide) (by omega) (by omega) fun w sw' cw' H hw' => ?_
    have hsc := hw'.sc
    have H : Hp w0 w (⟨bo, 22, [so]⟩ :: ⟨bw, 22, [sw]⟩ :: (co' ++ (cw' ++ L))) := H.re
    repeat (first | simp only [cI_enc, cE_enc, cN_enc, W0] | refine lss_a ?_ | refine lss_b ?_ | refine gtr_a ?_ | refine gtr_b ?_ | refine geq_a ?_ | refine geq_b ?_ | refine leq_a ?_ | refine leq_b ?_ | refine eql_a ?_ | refine eql_b ?_ | refine neq_a ?_ | refine neq_b ?_ | refine add_a ?_ | refine sub_a ?_ | refine ld_a ?_ | refine ldA_a ?_ | refine ldS_a ?_ | refine ldNS_a ?_ | refine rdA_s ?_ | refine rd1_s ?_ | refine drew_a fun w1 H1 => ?_ | refine st_a fun w1 H1 => ?_ | refine stA_a fun w1 H1 => ?_ | refine lenT_a ?_ | refine lenO_a ?_ | refine ixT_a ?_ | refine ixO_a ?_ | fail)
    refine ⟨(by first | rfl | trivial), ?_⟩
    rw [if_pos hg]
    exact ⟨sw', co', cw', ho', hw', by assumption⟩
  · repeat (first | simp only [cI_enc, cE_enc, cN_enc, W0] | refine lss_a ?_ | refine lss_b ?_ | refine gtr_a ?_ | refine gtr_b ?_ | refine geq_a ?_ | refine geq_b ?_ | refine leq_a ?_ | refine leq_b ?_ | refine eql_a ?_ | refine eql_b ?_ | refine neq_a ?_ | refine neq_b ?_ | refine add_a ?_ | refine sub_a ?_ | refine ld_a ?_ | refine ldA_a ?_ | refine ldS_a ?_ | refine ldNS_a ?_ | refine rdA_s ?_ | refine rd1_s ?_ | refine drew_a fun w1 H1 => ?_ | refine st_a fun w1 H1 => ?_ | refine stA_a fun w1 H1 => ?_ | refine lenT_a ?_ | refine lenO_a ?_ | refine ixT_a ?_ | refine ixO_a ?_ | fail)
    refine ⟨(by first | rfl | trivial), ?_⟩
    rw [if_neg hg]
    exact H
theorem Clone_spec {xs : List Int} (h : TR cI w0 cs s xs) (H : Hp w0 w L) (m1 : ∀ c ∈ cs, c ∈ L) (hl : xs.length ≤ 4000) :
    Calls Pg 50 ⟨[s]⟩ w fun x w' => ∃ s' cs', x = .returned s' ∧ Hp w0 w' (cs' ++ L) ∧ TS cI 3 s' xs cs' := by
  apply F50_calls
  unfold F50
  obtain ⟨⟨a, n, c⟩, rfl⟩ := h.sh
  cases a with
  | none =>
    have hx : xs = [] := by
      have hlen : xs.length = 0 := by
        rcases h with (⟨c, e, h0, _⟩ | ⟨a, c, e, _⟩) | ⟨b, o, c, e, l, e2, _⟩
        · simpa [cI] using h0
        · cases e
        · cases e2
      exact List.length_eq_zero_iff.1 hlen
    subst hx
    unfold Sh.val
    repeat (first | simp only [cI_enc, cE_enc, cN_enc, W0] | refine lss_a ?_ | refine lss_b ?_ | refine gtr_a ?_ | refine gtr_b ?_ | refine geq_a ?_ | refine geq_b ?_ | refine leq_a ?_ | refine leq_b ?_ | refine eql_a ?_ | refine eql_b ?_ | refine neq_a ?_ | refine neq_b ?_ | refine add_a ?_ | refine sub_a ?_ | refine ld_a ?_ | refine ldA_a ?_ | refine ldS_a ?_ | refine ldNS_a ?_ | refine rdA_s ?_ | refine rd1_s ?_ | refine drew_a fun w1 H1 => ?_ | refine st_a fun w1 H1 => ?_ | refine stA_a fun w1 H1 => ?_ | refine lenT_a ?_ | refine lenO_a ?_ | refine ixT_a ?_ | refine ixO_a ?_ | fail)
    exact ⟨_, [], (by first | rfl | trivial), H, TS.nil⟩
  | some a =>
    have h' := h
    unfold Sh.val at h' ⊢
    repeat (first | simp only [cI_enc, cE_enc, cN_enc, W0] | refine lss_a ?_ | refine lss_b ?_ | refine gtr_a ?_ | refine gtr_b ?_ | refine geq_a ?_ | refine geq_b ?_ | refine leq_a ?_ | refine leq_b ?_ | refine eql_a ?_ | refine eql_b ?_ | refine neq_a ?_ | refine neq_b ?_ | refine add_a ?_ | refine sub_a ?_ | refine ld_a ?_ | refine ldA_a ?_ | refine ldS_a ?_ | refine ldNS_a ?_ | refine rdA_s ?_ | refine rd1_s ?_ | refine drew_a fun w1 H1 => ?_ | refine st_a fun w1 H1 => ?_ | refine stA_a fun w1 H1 => ?_ | refine lenT_a ?_ | refine lenO_a ?_ | refine ixT_a ?_ | refine ixO_a ?_ | fail)
    refine lit0_t elI H fun w s0 H hs0 => ?_
    refine append_t elI H hs0 spl h' csub (by simp; omega) (by simp; omega) fun w s2 cs2 H hs2 => ?_
    exact ⟨s2, cs2, rfl, H, hs2⟩
end
end Go.Proofs.Ytagcifbfokneoaa.Den
end

section
set_option linter.unusedVariables false
set_option linter.unusedSimpArgs false
set_option maxRecDepth 8000
namespace Go.Proofs.Ytagcifbfokneoaa.Den
open Go Go.RowKit
section
variable {w w' w0 : World} {L L' F cs cs2 cs3 : List Chunk} {s s2 sb se sd : Value} {K : VK} {R : ER} {base d out : List Int} {E E' : List (Nat × Nat)} {es : List (Int × Int)} {n to i u x : Nat} {l : List Nat}
theorem slack_bd : ∀ (l : List Int), (∀ x ∈ l, 0 ≤ x) → slack l ≤ 255 * l.length
  | [], _ => by simp [slack]
  | a :: l, h => by
    have := slack_bd l fun x hx => h x (by simp [hx])
    have := h a (by simp)
    simp only [slack, List.map_cons, List.sum_cons, List.length_cons] at *
    omega
/-- The work that is left: where an edge is not settled, its waiter is in the work. -/
def Left (E : List (Nat × Nat)) (out : List Int) (work : List Nat) (t : Nat) (todo : List Nat) : Prop := ∀ e ∈ E, gt out e.1 ≤ gt out e.2 ∨ e.1 ∈ work ∨ (e.1 = t ∧ e.2 ∈ todo)
def EffQ (base : List Int) (E : List (Nat × Nat)) (w0 : World) (L : List Chunk) : ER := fun x w' => ∃ s cs out, x = .returned s ∧ Hp w0 w' (cs ++ L) ∧ TS cI 3 s out cs ∧ IsEff base E out
theorem eff_tail {bo : Nat} {so sn : Value} {co cn L2 : List Chunk} (hL : ∀ {w : World} {cs : List Chunk}, Hp w0 w (cs ++ L) → Hp w0 w (cs ++ L2)) (hp : E'.Perm E) (hV : Valid E base.length) (hb : ∀ x ∈ base, 0 ≤ x ∧ x ≤ 255) (hl : base.length ≤ 256) (hel : E.length ≤ 4000) (h1 : NR cU w0 cn sn (adj Prod.fst Prod.snd E' base.length))
    (ho : TS cI 3 so base co) (hn : ∀ c ∈ cn, c ∈ L) (H : Hp w0 w (⟨bo, 22, [so]⟩ :: (co ++ L))) : F33_j1 (EffQ base E w0 L2) (ptr bo 0) sn w := by
  obtain ⟨hs, htop, hhl, hsub⟩ := h1
  have hhl' : hs.length = base.length := by rw [hhl, adj_len]
  unfold F33_j1
  refine al_m (ys := [.slice none 0 0]) H (by kernel_rfl) fun w bw H => ?_
  have hsc := ho.sc
  unfold F33_j8
  repeat (first | simp only [cI_enc, cE_enc, cN_enc, W0] | refine lss_a ?_ | refine lss_b ?_ | refine gtr_a ?_ | refine gtr_b ?_ | refine geq_a ?_ | refine geq_b ?_ | refine leq_a ?_ | refine leq_b ?_ | refine eql_a ?_ | refine eql_b ?_ | refine neq_a ?_ | refine neq_b ?_ | refine add_a ?_ | refine sub_a ?_ | refine ld_a ?_ | refine ldA_a ?_ | refine ldS_a ?_ | refine ldNS_a ?_ | refine rdA_s ?_ | refine rd1_s ?_ | refine drew_a fun w1 H1 => ?_ | refine st_a fun w1 H1 => ?_ | refine stA_a fun w1 H1 => ?_ | refine lenT_a ?_ | refine lenO_a ?_ | refine ixT_a ?_ | refine ixO_a ?_ | fail)
  unfold F33_j9
  refine loop6 (F33_l3_succ _) (fun m x3 x4 x5 x6 x18 x19 w => ∃ i : Nat, ∃ sw cw, x3 = ptr bo 0 ∧ x4 = sn ∧ x5 = ptr bw 0 ∧ x6 = .func (.func 59) ⟨[]⟩ ⟨[ptr bo 0, ptr bw 0]⟩ ∧ x18 = I (base.length : Int) ∧ x19 = I i ∧ m + i = base.length ∧ TS cU 3 sw (List.range i) cw ∧ Hp w0 w (⟨bo, 22, [so]⟩ :: ⟨bw, 22, [sw]⟩ :: (co ++ (cw ++ L)))) ?_ (m := base.length)
    ⟨0, .slice none 0 0, [], rfl, rfl, rfl, rfl, rfl, rfl, by omega, TS.nil, H.re⟩
  clear H
  rintro m k _ sn _ _ _ _ w ⟨i, sw, cw, rfl, rfl, rfl, rfl, rfl, rfl, hm, hw, H⟩ hk
  unfold F33_b3
  refine lss_k (fun hi => ?_) (fun hi => ?_)
  · repeat (first | simp only [cI_enc, cE_enc, cN_enc, W0] | refine lss_a ?_ | refine lss_b ?_ | refine gtr_a ?_ | refine gtr_b ?_ | refine geq_a ?_ | refine geq_b ?_ | refine leq_a ?_ | refine leq_b ?_ | refine eql_a ?_ | refine eql_b ?_ | refine neq_a ?_ | refine neq_b ?_ | refine add_a ?_ | refine sub_a ?_ | refine ld_a ?_ | refine ldA_a ?_ | refine ldS_a ?_ | refine ldNS_a ?_ | refine rdA_s ?_ | refine rd1_s ?_ | refine drew_a fun w1 H1 => ?_ | refine st_a fun w1 H1 => ?_ | refine stA_a fun w1 H1 => ?_ | refine lenT_a ?_ | refine lenO_a ?_ | refine ixT_a ?_ | refine ixO_a ?_ | fail)
    refine app1_t (x := i) elU H hw spl rfl (by decide) (by simp; omega) (by simp; omega) fun w sw' cw' H hw' => ?_
    refine st_m H (by exact updd) (by simp) hw'.sc fun w H => ?_
    repeat (first | simp only [cI_enc, cE_enc, cN_enc, W0] | refine lss_a ?_ | refine lss_b ?_ | refine gtr_a ?_ | refine gtr_b ?_ | refine geq_a ?_ | refine geq_b ?_ | refine leq_a ?_ | refine leq_b ?_ | refine eql_a ?_ | refine eql_b ?_ | refine neq_a ?_ | refine neq_b ?_ | refine add_a ?_ | refine sub_a ?_ | refine ld_a ?_ | refine ldA_a ?_ | refine ldS_a ?_ | refine ldNS_a ?_ | refine rdA_s ?_ | refine rd1_s ?_ | refine drew_a fun w1 H1 => ?_ | refine st_a fun w1 H1 => ?_ | refine stA_a fun w1 H1 => ?_ | refine lenT_a ?_ | refine lenO_a ?_ | refine ixT_a ?_ | refine ixO_a ?_ | fail)
    exact hk (m - 1) _ _ _ _ _ _ _ (by omega) ⟨i + 1, sw', cw', rfl, rfl, rfl, rfl, rfl, rfl, by omega, by rw [List.range_succ]; exact hw', H.re⟩
  · repeat (first | simp only [cI_enc, cE_enc, cN_enc, W0] | refine lss_a ?_ | refine lss_b ?_ | refine gtr_a ?_ | refine gtr_b ?_ | refine geq_a ?_ | refine geq_b ?_ | refine leq_a ?_ | refine leq_b ?_ | refine eql_a ?_ | refine eql_b ?_ | refine neq_a ?_ | refine neq_b ?_ | refine add_a ?_ | refine sub_a ?_ | refine ld_a ?_ | refine ldA_a ?_ | refine ldS_a ?_ | refine ldNS_a ?_ | refine rdA_s ?_ | refine rd1_s ?_ | refine drew_a fun w1 H1 => ?_ | refine st_a fun w1 H1 => ?_ | refine stA_a fun w1 H1 => ?_ | refine lenT_a ?_ | refine lenO_a ?_ | refine ixT_a ?_ | refine ixO_a ?_ | fail)
    obtain rfl : i = base.length := by omega
    have hsb := slack_bd base fun x hx => (hb x hx).1
    unfold F33_j2 F33_j4
    refine loop4 (F33_l2_succ _) (fun m x3 x4 x5 x6 w => ∃ out so sw co cw work, x3 = ptr bo 0 ∧ x4 = sn ∧ x5 = ptr bw 0 ∧ x6 = .func (.func 59) ⟨[]⟩ ⟨[ptr bo 0, ptr bw 0]⟩ ∧ m = 2 * slack out + work.length ∧ m ≤ 140000 ∧ Wk base E out ∧ (∀ v ∈ work, v < base.length) ∧ Left E out work 0 [] ∧ TS cI 3 so out co ∧ TS cU 3 sw work cw ∧ Hp w0 w (⟨bo, 22, [so]⟩ :: ⟨bw, 22, [sw]⟩ :: (co ++ (cw ++ L)))) ?_ (m := 2 * slack base + base.length)
      ⟨base, so, sw, co, cw, _, rfl, rfl, rfl, rfl, by simp, by omega, Wk.start, by simp, fun e he => .inr (.inl (by simp; exact (hV e he).1)), ho, hw, H⟩
    clear H hk hm hw ho
    rintro m k _ sn _ _ w ⟨out, so, sw, co, cw, work, rfl, rfl, rfl, rfl, hm, hmb, hW, hwk, hlf, ho, hw, H⟩ hk
    unfold F33_b1
    refine ld_m H (by exact has) rfl ?_
    refine pv_of (lenS_ts hw) ?_
    rcases List.eq_nil_or_concat work with rfl | ⟨rest, t, rfl⟩
    · refine gtr_n (by simp) ?_
      repeat (first | simp only [cI_enc, cE_enc, cN_enc, W0] | refine lss_a ?_ | refine lss_b ?_ | refine gtr_a ?_ | refine gtr_b ?_ | refine geq_a ?_ | refine geq_b ?_ | refine leq_a ?_ | refine leq_b ?_ | refine eql_a ?_ | refine eql_b ?_ | refine neq_a ?_ | refine neq_b ?_ | refine add_a ?_ | refine sub_a ?_ | refine ld_a ?_ | refine ldA_a ?_ | refine ldS_a ?_ | refine ldNS_a ?_ | refine rdA_s ?_ | refine rd1_s ?_ | refine drew_a fun w1 H1 => ?_ | refine st_a fun w1 H1 => ?_ | refine stA_a fun w1 H1 => ?_ | refine lenT_a ?_ | refine lenO_a ?_ | refine ixT_a ?_ | refine ixO_a ?_ | fail)
      refine ⟨so, co, out, rfl, hL (H.re), ho, hW.done fun e he => ?_⟩
      rcases hlf e he with h | h | h
      · exact h
      · cases h
      · exact absurd h.2 (by simp)
    · rw [List.concat_eq_append] at *
      have hlen : (rest ++ [t]).length = rest.length + 1 := by simp
      rw [hlen] at hm
      refine gtr_y (by rw [hlen]; omega) ?_
      unfold F33_j5
      have htn := hwk t (by simp)
      have htl : (rest ++ [t])[rest.length]? = some t := by simp
      have e1 : (((rest ++ [t]).length : Nat) : Int) - 1 = (rest.length : Int) := by rw [hlen]; omega
      obtain ⟨kt, hkt⟩ : ∃ kt, hs[t]? = some kt := ⟨_, List.getElem?_eq_getElem (by omega)⟩
      have hwt := hsub t kt _ hkt (adj_get htn)
      have hwl : (adjAt Prod.fst Prod.snd E' t).length ≤ 4000 := adjAt_len (by rw [hp.length_eq]; exact hel)
      repeat (first | simp only [cI_enc, cE_enc, cN_enc, W0] | refine lss_a ?_ | refine lss_b ?_ | refine gtr_a ?_ | refine gtr_b ?_ | refine geq_a ?_ | refine geq_b ?_ | refine leq_a ?_ | refine leq_b ?_ | refine eql_a ?_ | refine eql_b ?_ | refine neq_a ?_ | refine neq_b ?_ | refine add_a ?_ | refine sub_a ?_ | refine ld_a ?_ | refine ldA_a ?_ | refine ldS_a ?_ | refine ldNS_a ?_ | refine rdA_s ?_ | refine rd1_s ?_ | refine drew_a fun w1 H1 => ?_ | refine st_a fun w1 H1 => ?_ | refine stA_a fun w1 H1 => ?_ | refine lenT_a ?_ | refine lenO_a ?_ | refine ixT_a ?_ | refine ixO_a ?_ | fail)
      rw [e1]
      refine ix1_t (C := cU) (TS.tr hw) (by assumption) csub htl rfl rfl ?_
      repeat (first | simp only [cI_enc, cE_enc, cN_enc, W0] | refine lss_a ?_ | refine lss_b ?_ | refine gtr_a ?_ | refine gtr_b ?_ | refine geq_a ?_ | refine geq_b ?_ | refine leq_a ?_ | refine leq_b ?_ | refine eql_a ?_ | refine eql_b ?_ | refine neq_a ?_ | refine neq_b ?_ | refine add_a ?_ | refine sub_a ?_ | refine ld_a ?_ | refine ldA_a ?_ | refine ldS_a ?_ | refine ldNS_a ?_ | refine rdA_s ?_ | refine rd1_s ?_ | refine drew_a fun w1 H1 => ?_ | refine st_a fun w1 H1 => ?_ | refine stA_a fun w1 H1 => ?_ | refine lenT_a ?_ | refine lenO_a ?_ | refine ixT_a ?_ | refine ixO_a ?_ | fail)
      rw [e1]
      obtain ⟨sw2, e2, hw2⟩ := slTo_t (hi := rest.length) hw (by rw [hlen]; omega)
      refine pv_of e2 ?_
      refine st_m H (by exact updd) (by simp) hw2.sc fun w2 H2 => ?_
      simp only [List.set_cons_zero] at H2
      have htake : (rest ++ [t]).take rest.length = rest := by simp
      rw [htake] at hw2
      refine ix1_t (C := cS) htop H2 (by intro c hc; simp [hn c hc]) hkt rfl rfl ?_
      repeat (first | simp only [cI_enc, cE_enc, cN_enc, W0] | refine lss_a ?_ | refine lss_b ?_ | refine gtr_a ?_ | refine gtr_b ?_ | refine geq_a ?_ | refine geq_b ?_ | refine leq_a ?_ | refine leq_b ?_ | refine eql_a ?_ | refine eql_b ?_ | refine neq_a ?_ | refine neq_b ?_ | refine add_a ?_ | refine sub_a ?_ | refine ld_a ?_ | refine ldA_a ?_ | refine ldS_a ?_ | refine ldNS_a ?_ | refine rdA_s ?_ | refine rd1_s ?_ | refine drew_a fun w1 H1 => ?_ | refine st_a fun w1 H1 => ?_ | refine stA_a fun w1 H1 => ?_ | refine lenT_a ?_ | refine lenO_a ?_ | refine ixT_a ?_ | refine ixO_a ?_ | fail)
      unfold F33_j6
      refine loop8 (F33_l1_succ _ _) (fun q x3 x4 x5 x6 x8 x44 x45 x46 w => ∃ j : Nat, ∃ out so sw co cw work, x3 = ptr bo 0 ∧ x4 = sn ∧ x5 = ptr bw 0 ∧ x6 = .func (.func 59) ⟨[]⟩ ⟨[ptr bo 0, ptr bw 0]⟩ ∧ x8 = I t ∧ x44 = kt.val ∧ x45 = I ((adjAt Prod.fst Prod.snd E' t).length : Int) ∧ x46 = I j ∧ q + j = (adjAt Prod.fst Prod.snd E' t).length ∧
          2 * slack out + work.length + 1 ≤ m ∧ Wk base E out ∧ (∀ v ∈ work, v < base.length) ∧ Left E out work t ((adjAt Prod.fst Prod.snd E' t).drop j) ∧ TS cI 3 so out co ∧ TS cU 3 sw work cw ∧ Hp w0 w (⟨bo, 22, [so]⟩ :: ⟨bw, 22, [sw]⟩ :: (co ++ (cw ++ L)))) ?_ (m := (adjAt Prod.fst Prod.snd E' t).length)
        ⟨0, out, so, sw2, co, cw, rest, rfl, rfl, rfl, rfl, rfl, rfl, rfl, rfl, rfl, by omega, hW, fun v hv => hwk v (by simp [hv]), fun e he => ?_, ho, hw2, H2⟩
      rotate_left
      · rcases hlf e he with h | h | h
        · exact .inl h
        · rcases List.mem_append.1 h with h | h
          · exact .inr (.inl h)
          · simp at h
            exact .inr (.inr ⟨h, by simp only [List.drop_zero]; exact adj_mem_h.2 (by rw [← h]; exact hp.symm.subset he)⟩)
        · exact absurd h.2 (by simp)
      clear H H2 hW hlf ho hw hw2 hm e2
      rintro q k2 _ sn _ _ _ _ _ _ w ⟨j, out, so, sw, co, cw, work, rfl, rfl, rfl, rfl, rfl, rfl, rfl, rfl, hq, hm, hW, hwk, hlf, ho, hw, H⟩ hk2
      unfold F33_b2
      refine lss_k (fun hj => ?_) (fun hj => ?_)
      · have hx : (adjAt Prod.fst Prod.snd E' t)[j]? = some (adjAt Prod.fst Prod.snd E' t)[j] := List.getElem?_eq_getElem (by omega)
        have hdr : (adjAt Prod.fst Prod.snd E' t).drop j = (adjAt Prod.fst Prod.snd E' t)[j] :: (adjAt Prod.fst Prod.snd E' t).drop (j + 1) := List.drop_eq_getElem_cons (by omega)
        generalize (adjAt Prod.fst Prod.snd E' t)[j] = h at hx hdr
        have hE := hp.subset (adj_mem_h.1 (List.mem_of_getElem? hx))
        have hhn := (hV _ hE).2
        have hot : out[t]? = some (gt out t) := gt_some (by rw [hW.len]; exact htn)
        unfold F33_j7
        refine ix1_t (C := cU) hwt H (by intro c hc; simp [hn c hc]) hx rfl rfl ?_
        refine ld_m H (by exact has) rfl ?_
        refine ix1_t (C := cI) (TS.tr ho) H csub hot rfl rfl ?_
        refine calD_k (by kernel_rfl) ?_
        refine cal_h (raise_spec ho hw (by rw [hW.len]; exact hhn) (by omega) H) ?_
        rintro _ w ⟨rfl, hr⟩
        simp only [ret_k]
        refine add_k (by omega) (by omega) rfl ?_
        split at hr
        · rename_i hlt
          obtain ⟨sw', co', cw', ho', hw', H⟩ := hr
          have hle := hW.le (fun x hx => (hb x hx).2) htn
          have hsl := slack_set (l := out) (i := h) (v := gt out t) (by rw [hW.len]; exact hhn) hlt hle
          have hne : h ≠ t := by rintro rfl; omega
          have g : ∀ v, gt (out.set h (gt out t)) v = if v = h then gt out t else gt out v := fun v => gt_set (by rw [hW.len]; exact hhn)
          refine hk2 (q - 1) _ _ _ _ _ _ _ _ _ (by omega) ⟨j + 1, _, so, sw', co', cw', work ++ [h], rfl, rfl, rfl, rfl, rfl, rfl, rfl, rfl, by omega, by simp; omega, hW.raise hV hE (Int.le_of_lt hlt), ?_, fun e he => ?_, ho', hw', H⟩
          · intro v hv
            rcases List.mem_append.1 hv with hv | hv
            · exact hwk v hv
            · simp at hv; subst hv; exact hhn
          · by_cases e1 : e.1 = h
            · exact .inr (.inl (by simp [e1]))
            · rw [g, g, if_neg e1]
              rcases hlf e he with hh | hh | hh
              · refine .inl ?_
                split
                · rename_i e2; rw [e2] at hh; omega
                · exact hh
              · exact .inr (.inl (by simp [hh]))
              · rw [hdr] at hh
                rcases List.mem_cons.1 hh.2 with h2 | h2
                · refine .inl ?_
                  rw [if_pos h2, hh.1]; omega
                · exact .inr (.inr ⟨hh.1, h2⟩)
        · rename_i hge
          refine hk2 (q - 1) _ _ _ _ _ _ _ _ _ (by omega) ⟨j + 1, out, so, sw, co, cw, work, rfl, rfl, rfl, rfl, rfl, rfl, rfl, rfl, by omega, hm, hW, hwk, fun e he => ?_, ho, hw, hr⟩
          rcases hlf e he with hh | hh | hh
          · exact .inl hh
          · exact .inr (.inl hh)
          · rw [hdr] at hh
            rcases List.mem_cons.1 hh.2 with h2 | h2
            · refine .inl ?_
              rw [hh.1, h2]; omega
            · exact .inr (.inr ⟨hh.1, h2⟩)
      · repeat (first | simp only [cI_enc, cE_enc, cN_enc, W0] | refine lss_a ?_ | refine lss_b ?_ | refine gtr_a ?_ | refine gtr_b ?_ | refine geq_a ?_ | refine geq_b ?_ | refine leq_a ?_ | refine leq_b ?_ | refine eql_a ?_ | refine eql_b ?_ | refine neq_a ?_ | refine neq_b ?_ | refine add_a ?_ | refine sub_a ?_ | refine ld_a ?_ | refine ldA_a ?_ | refine ldS_a ?_ | refine ldNS_a ?_ | refine rdA_s ?_ | refine rd1_s ?_ | refine drew_a fun w1 H1 => ?_ | refine st_a fun w1 H1 => ?_ | refine stA_a fun w1 H1 => ?_ | refine lenT_a ?_ | refine lenO_a ?_ | refine ixT_a ?_ | refine ixO_a ?_ | fail)
        refine hk (2 * slack out + work.length) _ _ _ _ _ (by omega) ⟨out, so, sw, co, cw, work, rfl, rfl, rfl, rfl, rfl, by omega, hW, hwk, fun e he => ?_, ho, hw, H⟩
        rcases hlf e he with hh | hh | hh
        · exact .inl hh
        · exact .inr (.inl hh)
        · rw [List.drop_eq_nil_of_le (by omega)] at hh
          exact absurd hh.2 (by simp)
theorem eff_spec (h1 : TR cI w0 cs sb base) (h2 : TR cN w0 cs2 se E) (H : Hp w0 w L) (m1 : ∀ c ∈ cs, c ∈ L) (m2 : ∀ c ∈ cs2, c ∈ L) (hb : ∀ x ∈ base, 0 ≤ x ∧ x ≤ 255) (hV : Valid E base.length) (hl : base.length ≤ 256) (hel : E.length ≤ 4000) (hnd : E.Nodup) :
    Calls Pg 33 ⟨[.agg ⟨[sb, se]⟩]⟩ w (EffQ base E w0 L) := by
  apply F33_calls
  unfold F33
  refine bx_m H fun w b H => ?_
  repeat (first | simp only [cI_enc, cE_enc, cN_enc, W0] | refine lss_a ?_ | refine lss_b ?_ | refine gtr_a ?_ | refine gtr_b ?_ | refine geq_a ?_ | refine geq_b ?_ | refine leq_a ?_ | refine leq_b ?_ | refine eql_a ?_ | refine eql_b ?_ | refine neq_a ?_ | refine neq_b ?_ | refine add_a ?_ | refine sub_a ?_ | refine ld_a ?_ | refine ldA_a ?_ | refine ldS_a ?_ | refine ldNS_a ?_ | refine rdA_s ?_ | refine rd1_s ?_ | refine drew_a fun w1 H1 => ?_ | refine st_a fun w1 H1 => ?_ | refine stA_a fun w1 H1 => ?_ | refine lenT_a ?_ | refine lenO_a ?_ | refine ixT_a ?_ | refine ixO_a ?_ | fail)
  have fin : ∀ {w : World} {bo : Nat} {so sn : Value} {E' : List (Nat × Nat)} {co cn : List Chunk}, TS cI 3 so base co → E'.Perm E → NR cU w0 cn sn (adj Prod.fst Prod.snd E' base.length) → Hp w0 w (⟨bo, 22, [so]⟩ :: (co ++ (cn ++ L))) → F33_j1 (EffQ base E w0 L) (ptr bo 0) sn w := by
    intro w bo so sn E' co cn ho hp hn H
    exact eff_tail (L := cn ++ L) (fun H => H.re) hp hV hb hl hel hn ho (fun c hc => List.mem_append_left _ hc) H
  refine allW2 ?_ ?_
  · refine cal_h (Clone_spec h1 (by assumption) csub (by omega)) ?_
    rintro _ w ⟨so, co, rfl, H, ho⟩
    repeat (first | simp only [cI_enc, cE_enc, cN_enc, W0] | refine lss_a ?_ | refine lss_b ?_ | refine gtr_a ?_ | refine gtr_b ?_ | refine geq_a ?_ | refine geq_b ?_ | refine leq_a ?_ | refine leq_b ?_ | refine eql_a ?_ | refine eql_b ?_ | refine neq_a ?_ | refine neq_b ?_ | refine add_a ?_ | refine sub_a ?_ | refine ld_a ?_ | refine ldA_a ?_ | refine ldS_a ?_ | refine ldNS_a ?_ | refine rdA_s ?_ | refine rd1_s ?_ | refine drew_a fun w1 H1 => ?_ | refine st_a fun w1 H1 => ?_ | refine stA_a fun w1 H1 => ?_ | refine lenT_a ?_ | refine lenO_a ?_ | refine ixT_a ?_ | refine ixO_a ?_ | fail)
    refine allW2 ?_ ?_
    · refine cal_h (holders_spec h1 h2 (by assumption) csub csub hV hl hel hnd) ?_
      rintro _ w ⟨sn, cn, E', rfl, H, hn, hp, _⟩
      repeat (first | simp only [cI_enc, cE_enc, cN_enc, W0] | refine lss_a ?_ | refine lss_b ?_ | refine gtr_a ?_ | refine gtr_b ?_ | refine geq_a ?_ | refine geq_b ?_ | refine leq_a ?_ | refine leq_b ?_ | refine eql_a ?_ | refine eql_b ?_ | refine neq_a ?_ | refine neq_b ?_ | refine add_a ?_ | refine sub_a ?_ | refine ld_a ?_ | refine ldA_a ?_ | refine ldS_a ?_ | refine ldNS_a ?_ | refine rdA_s ?_ | refine rd1_s ?_ | refine drew_a fun w1 H1 => ?_ | refine st_a fun w1 H1 => ?_ | refine stA_a fun w1 H1 => ?_ | refine lenT_a ?_ | refine lenO_a ?_ | refine ixT_a ?_ | refine ixO_a ?_ | fail)
      refine al_m (ys := [.slice none 0 0]) (by assumption) (by kernel_rfl) fun w bo H => ?_
      have hsc := ho.sc
      repeat (first | simp only [cI_enc, cE_enc, cN_enc, W0] | refine lss_a ?_ | refine lss_b ?_ | refine gtr_a ?_ | refine gtr_b ?_ | refine geq_a ?_ | refine geq_b ?_ | refine leq_a ?_ | refine leq_b ?_ | refine eql_a ?_ | refine eql_b ?_ | refine neq_a ?_ | refine neq_b ?_ | refine add_a ?_ | refine sub_a ?_ | refine ld_a ?_ | refine ldA_a ?_ | refine ldS_a ?_ | refine ldNS_a ?_ | refine rdA_s ?_ | refine rd1_s ?_ | refine drew_a fun w1 H1 => ?_ | refine st_a fun w1 H1 => ?_ | refine stA_a fun w1 H1 => ?_ | refine lenT_a ?_ | refine lenO_a ?_ | refine ixT_a ?_ | refine ixO_a ?_ | fail)
      exact fin ho hp hn (Hp.re (by assumption))
    · refine al_m (ys := [.slice none 0 0]) (by assumption) (by kernel_rfl) fun w bo H => ?_
      have hsc := ho.sc
      repeat (first | simp only [cI_enc, cE_enc, cN_enc, W0] | refine lss_a ?_ | refine lss_b ?_ | refine gtr_a ?_ | refine gtr_b ?_ | refine geq_a ?_ | refine geq_b ?_ | refine leq_a ?_ | refine leq_b ?_ | refine eql_a ?_ | refine eql_b ?_ | refine neq_a ?_ | refine neq_b ?_ | refine add_a ?_ | refine sub_a ?_ | refine ld_a ?_ | refine ldA_a ?_ | refine ldS_a ?_ | refine ldNS_a ?_ | refine rdA_s ?_ | refine rd1_s ?_ | refine drew_a fun w1 H1 => ?_ | refine st_a fun w1 H1 => ?_ | refine stA_a fun w1 H1 => ?_ | refine lenT_a ?_ | refine lenO_a ?_ | refine ixT_a ?_ | refine ixO_a ?_ | fail)
      refine cal_h (holders_spec h1 h2 (by assumption) csub csub hV hl hel hnd) ?_
      rintro _ w ⟨sn, cn, E', rfl, H, hn, hp, _⟩
      repeat (first | simp only [cI_enc, cE_enc, cN_enc, W0] | refine lss_a ?_ | refine lss_b ?_ | refine gtr_a ?_ | refine gtr_b ?_ | refine geq_a ?_ | refine geq_b ?_ | refine leq_a ?_ | refine leq_b ?_ | refine eql_a ?_ | refine eql_b ?_ | refine neq_a ?_ | refine neq_b ?_ | refine add_a ?_ | refine sub_a ?_ | refine ld_a ?_ | refine ldA_a ?_ | refine ldS_a ?_ | refine ldNS_a ?_ | refine rdA_s ?_ | refine rd1_s ?_ | refine drew_a fun w1 H1 => ?_ | refine st_a fun w1 H1 => ?_ | refine stA_a fun w1 H1 => ?_ | refine lenT_a ?_ | refine lenO_a ?_ | refine ixT_a ?_ | refine ixO_a ?_ | fail)
      exact fin ho hp hn (Hp.re (by assumption))
  · refine al_m (ys := [.slice none 0 0]) (by assumption) (by kernel_rfl) fun w bo H => ?_
    repeat (first | simp only [cI_enc, cE_enc, cN_enc, W0] | refine lss_a ?_ | refine lss_b ?_ | refine gtr_a ?_ | refine gtr_b ?_ | refine geq_a ?_ | refine geq_b ?_ | refine leq_a ?_ | refine leq_b ?_ | refine eql_a ?_ | refine eql_b ?_ | refine neq_a ?_ | refine neq_b ?_ | refine add_a ?_ | refine sub_a ?_ | refine ld_a ?_ | refine ldA_a ?_ | refine ldS_a ?_ | refine ldNS_a ?_ | refine rdA_s ?_ | refine rd1_s ?_ | refine drew_a fun w1 H1 => ?_ | refine st_a fun w1 H1 => ?_ | refine stA_a fun w1 H1 => ?_ | refine lenT_a ?_ | refine lenO_a ?_ | refine ixT_a ?_ | refine ixO_a ?_ | fail)
    refine cal_h (Clone_spec h1 (by assumption) csub (by omega)) ?_
    rintro _ w ⟨so, co, rfl, H, ho⟩
    repeat (first | simp only [cI_enc, cE_enc, cN_enc, W0] | refine lss_a ?_ | refine lss_b ?_ | refine gtr_a ?_ | refine gtr_b ?_ | refine geq_a ?_ | refine geq_b ?_ | refine leq_a ?_ | refine leq_b ?_ | refine eql_a ?_ | refine eql_b ?_ | refine neq_a ?_ | refine neq_b ?_ | refine add_a ?_ | refine sub_a ?_ | refine ld_a ?_ | refine ldA_a ?_ | refine ldS_a ?_ | refine ldNS_a ?_ | refine rdA_s ?_ | refine rd1_s ?_ | refine drew_a fun w1 H1 => ?_ | refine st_a fun w1 H1 => ?_ | refine stA_a fun w1 H1 => ?_ | refine lenT_a ?_ | refine lenO_a ?_ | refine ixT_a ?_ | refine ixO_a ?_ | fail)
    refine cal_h (holders_spec h1 h2 (by assumption) csub csub hV hl hel hnd) ?_
    rintro _ w ⟨sn, cn, E', rfl, H, hn, hp, _⟩
    have hsc := ho.sc
    repeat (first | simp only [cI_enc, cE_enc, cN_enc, W0] | refine lss_a ?_ | refine lss_b ?_ | refine gtr_a ?_ | refine gtr_b ?_ | refine geq_a ?_ | refine geq_b ?_ | refine leq_a ?_ | refine leq_b ?_ | refine eql_a ?_ | refine eql_b ?_ | refine neq_a ?_ | refine neq_b ?_ | refine add_a ?_ | refine sub_a ?_ | refine ld_a ?_ | refine ldA_a ?_ | refine ldS_a ?_ | refine ldNS_a ?_ | refine rdA_s ?_ | refine rd1_s ?_ | refine drew_a fun w1 H1 => ?_ | refine st_a fun w1 H1 => ?_ | refine stA_a fun w1 H1 => ?_ | refine lenT_a ?_ | refine lenO_a ?_ | refine ixT_a ?_ | refine ixO_a ?_ | fail)
    exact fin ho hp hn (Hp.re (by assumption))
end
end Go.Proofs.Ytagcifbfokneoaa.Den
end
