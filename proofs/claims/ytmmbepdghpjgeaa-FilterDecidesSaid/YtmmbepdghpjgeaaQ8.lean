/- From the library's sort contracts to lists in chunks. Conditions: none. -/
import Derived.Shelf.SlSortCmp.NoneTotal
import Derived.Test.YtmmbepdghpjgeaaQ7
section
set_option linter.unusedVariables false
set_option linter.unusedSimpArgs false
set_option maxRecDepth 8000
namespace Go.Proofs.Ytmmbepdghpjgeaa.Den
open Go Go.RowKit
section
variable {α : Type} [Inhabited α] {C : Cod α} {xs : List α} {w w' w0 : World} {L F cs : List Chunk} {s : Value} {el : Nat}
theorem ext_grow {W W' : World} (h : Ext [] W W') : ∃ q os, W' = Sort.grow (W.drewN q) os := by
  refine ⟨W'.drawn - W.drawn, W'.heap.extract W.heap.size W'.heap.size, ?_⟩
  have h1 := h.os; have h2 := h.tape; have h3 := h.output; have h4 := h.drawn
  have hh : W'.heap = W.heap ++ W'.heap.extract W.heap.size W'.heap.size := by
    apply Array.ext_getElem?
    intro i
    rw [Array.getElem?_append]
    split
    · rename_i hi; rw [h.block i hi (by simp)]
    · rename_i hi
      by_cases hi2 : i < W'.heap.size
      · rw [Array.getElem?_extract]
        rw [if_pos (by have := h.size; omega)]
        congr 1; omega
      · rw [Array.getElem?_eq_none (by omega), Array.getElem?_eq_none]
        simp; omega
  obtain ⟨hp, tp, dr, os', out⟩ := W'
  simp only at h1 h2 h3 h4 hh
  subst h1 h2 h3
  simp only [Sort.grow, World.drewN, World.mk.injEq, and_true, true_and]
  exact ⟨hh, by omega⟩
theorem flatK_all : (Sort.flatK C.enc C.sz xs.toArray).toList = C.all xs := by
  apply List.ext_getElem?
  intro t
  by_cases ht : t < xs.length * C.sz
  · have hz : 0 < C.sz := Nat.pos_of_ne_zero fun h => by rw [h] at ht; simp at ht
    have hj : t / C.sz < xs.length := (Nat.div_lt_iff_lt_mul hz).2 ht
    have hm : t % C.sz < C.sz := Nat.mod_lt _ hz
    obtain ⟨x, hx⟩ : ∃ x, xs[t / C.sz]? = some x := ⟨_, List.getElem?_eq_getElem hj⟩
    have e1 := all_get (C := C) hx hm
    rw [show t / C.sz * C.sz + t % C.sz = t from by rw [Nat.mul_comm]; exact Nat.div_add_mod _ _] at e1
    rw [e1]
    have e2 : xs.toArray[t / C.sz]! = x := by simp [hx]
    have e3 : (Sort.flatK C.enc C.sz xs.toArray)[t]? = some ((C.enc x)[t % C.sz]!) := by
      simp only [Sort.flatK, Array.getElem?_map]
      rw [Array.getElem?_range]
      simp only [List.size_toArray, if_pos ht, Option.map_some, e2]
    rw [Array.getElem?_toList, e3]
    have hl := C.len x
    rw [List.getElem?_eq_getElem (by omega), List.getElem!_eq_getElem?_getD, List.getElem?_eq_getElem (by omega)]; rfl
  · rw [List.getElem?_eq_none, List.getElem?_eq_none]
    · rw [all_len]; omega
    · simp [Sort.flatK]; omega
theorem sort_bridge (h : TS C el s xs cs) (H : Hp w0 w (cs ++ F)) (hn : 0 < xs.length) : ∃ b cap, s = .slice (some ⟨b, 0, none⟩) xs.length cap ∧ Sort.HoldsK C.enc C.sz w b 0 xs.toArray ∧ b < w.heap.size ∧
    ∀ (d' : Array α) (n : Nat) (os : Array Obj), d'.size = xs.length → ∃ cs', Hp w0 (sortWorldK C.enc C.sz w b 0 n d' os) (cs' ++ F) ∧ TS C el s d'.toList cs' := by
  obtain ⟨b, cap, rest, rfl, rfl, h1, h2⟩ := h.chunk hn
  have hb : Blk w b el (C.all xs ++ rest) := (H.blk ⟨b, el, C.all xs ++ rest⟩ (by simp)).2
  refine ⟨b, cap, rfl, ?_, hb.lt, ?_⟩
  · intro j hj
    rw [Nat.zero_add]
    refine ⟨?_, hb.frozen j⟩
    rw [hb.cell]
    have e : (Sort.flatK C.enc C.sz xs.toArray)[j]? = (C.all xs)[j]? := by rw [← Array.getElem?_toList, flatK_all]
    have hl : (C.all xs).length = (Sort.flatK C.enc C.sz xs.toArray).size := by rw [← flatK_all]; simp
    rw [List.getElem?_append_left (by omega), ← e, Array.getElem?_eq_getElem hj, getElem!_pos _ j hj]
    rfl
  · intro d' n os hd
    refine ⟨[⟨b, el, C.all d'.toList ++ rest⟩], ?_, by rw [← hd, ← Array.length_toList]; exact TS.mk rfl (by simp; omega) (by rw [h2, ← hd]; simp)⟩
    have hfl : (Sort.flatK C.enc C.sz d').toList = C.all d'.toList := by
      have := flatK_all (C := C) (xs := d'.toList); simpa using this
    have hlen : (C.all d'.toList).length = (C.all xs).length := by rw [all_len, all_len]; simp [hd]
    have hsz : (Sort.flatK C.enc C.sz d').size = (C.all xs).length := by rw [← hlen, ← hfl]; simp
    have hheap : w.heap[b]? = some (.cells ⟨C.all xs ++ rest⟩ el (0, 0)) := hb
    have hcells : Sort.putCells id 0 (Sort.flatK C.enc C.sz d') ⟨C.all xs ++ rest⟩ = ⟨C.all d'.toList ++ rest⟩ := by
      apply Array.ext_getElem?
      intro i
      simp only [Sort.putCells, Array.getElem?_mapIdx]
      by_cases hi : i < (C.all xs).length
      · have e1 : ((⟨C.all xs ++ rest⟩ : Array Value))[i]? = some (C.all xs)[i] := by simp [List.getElem?_append_left hi, hi]
        have e2 : ((⟨C.all d'.toList ++ rest⟩ : Array Value))[i]? = (C.all d'.toList)[i]? := by simp [List.getElem?_append_left (show i < (C.all d'.toList).length by omega)]
        rw [e1, e2, ← hfl]
        simp only [Option.map_some, Nat.zero_le, true_and, Nat.zero_add, Nat.sub_zero, hsz, hi, if_true, id]
        simp [hsz, hi]
      · have e1 : ((⟨C.all xs ++ rest⟩ : Array Value))[i]? = rest[i - (C.all xs).length]? := by simp [List.getElem?_append_right (Nat.not_lt.1 hi)]
        have e2 : ((⟨C.all d'.toList ++ rest⟩ : Array Value))[i]? = rest[i - (C.all xs).length]? := by
          have := List.getElem?_append_right (l₁ := C.all d'.toList) (l₂ := rest) (i := i) (by omega)
          rw [hlen] at this; simpa using this
        rw [e1, e2]
        cases rest[i - (C.all xs).length]? with
        | none => rfl
        | some v => simp only [Option.map_some, hsz]; rw [if_neg (by omega)]
    have hb' : Blk (sortWorldK C.enc C.sz w b 0 n d' os) b el (C.all d'.toList ++ rest) := by
      unfold Blk sortWorldK Sort.grow Sort.putRowK Sort.putRow Sort.mapBlock Sort.ahead
      simp only
      rw [Array.getElem?_append_left (by simpa using hb.lt), Array.getElem?_modify, if_pos rfl, hheap]
      simp only [Option.map_some, Sort.onCells, hcells]
    have he : Ext [b] w (sortWorldK C.enc C.sz w b 0 n d' os) := by
      refine ⟨rfl, rfl, rfl, ?_, fun k hk hne => ?_, ?_⟩
      · unfold sortWorldK Sort.grow Sort.putRowK Sort.putRow Sort.mapBlock Sort.ahead; simp
      · unfold sortWorldK Sort.grow Sort.putRowK Sort.putRow Sort.mapBlock Sort.ahead
        simp only
        rw [Array.getElem?_append_left (by simpa using hk), Array.getElem?_modify, if_neg (by simpa using fun h => hne (by simp [h]))]
      · unfold sortWorldK Sort.grow Sort.putRowK Sort.putRow Sort.mapBlock Sort.ahead; simp
    exact Hp.upd (c := ⟨b, el, C.all xs ++ rest⟩) H hb' he
theorem permIn_all {d d' : Array α} (h : Sort.PermIn 0 d.size d d') : d'.size = d.size ∧ d'.toList.Perm d.toList := by
  obtain ⟨h1, _, h3⟩ := h
  refine ⟨h1, ?_⟩
  have e1 : d'.extract 0 d.size = d' := by rw [← h1]; simp
  have e2 : d.extract 0 d.size = d := by simp
  rw [e1, e2] at h3; exact h3
theorem sortedIn_pw {lt : α → α → Bool} {d : Array α} (h : Sort.SortedIn lt 0 d.size d) : d.toList.Pairwise fun x y => lt y x = false := by
  rw [List.pairwise_iff_getElem]
  intro i j hi hj hij
  have := h i j (Nat.zero_le _) hij (by simpa using hj)
  simp only [Array.length_toList] at hi hj
  simpa [hi, hj] using this
end
end Go.Proofs.Ytmmbepdghpjgeaa.Den
end

section
set_option linter.unusedVariables false
set_option maxRecDepth 100000
namespace Go.Proofs.Ytmmbepdghpjgeaa.Den
open Go
/-! ### 75: filter_Filter_ordered_1 -/
def F75 (R : ER) (x0 x1 x2 x3 : Value) : WP :=
  bx 119 x0 fun v1 =>
  bx 119 x1 fun v2 =>
  drewV (
  ld1 x2 fun v3 =>
  ld1 x3 fun v4 =>
  pv (nilO v4) fun v5 =>
  pv (faO 4 v5) fun v6 =>
  ld1 v6 fun v7 =>
  ldN 5 v1 fun v8 =>
  ld1 x3 fun v9 =>
  pv (nilO v9) fun v10 =>
  pv (faO 4 v10) fun v11 =>
  ld1 v11 fun v12 =>
  ldN 5 v2 fun v13 =>
  allW [
  (mem fun w15 => valV Pg noR (Instr.lookup 115 v7 v8 false) fun v14 =>
   rdN 5 v2 v13 <|
   rd1 v11 v12 <|
   rd1 x3 v9 <|
   rd1 x2 v3 <|
   mem fun w17 => valV Pg noR (Instr.lookup 115 v12 v13 false) fun v16 =>
   rdN 5 v1 v8 <|
   rd1 v6 v7 <|
   rd1 x3 v4 <|
   rd1 x2 v3 <|
   mem fun w19 => calD Pg noR v3 ⟨[v14, v16]⟩ fun v18 =>
   R (.returned v18)),
  (mem fun w21 => valV Pg noR (Instr.lookup 115 v12 v13 false) fun v20 =>
   rdN 5 v1 v8 <|
   rd1 v6 v7 <|
   rd1 x3 v4 <|
   rd1 x2 v3 <|
   mem fun w23 => valV Pg noR (Instr.lookup 115 v7 v8 false) fun v22 =>
   rdN 5 v2 v13 <|
   rd1 v11 v12 <|
   rd1 x3 v9 <|
   rd1 x2 v3 <|
   mem fun w25 => calD Pg noR v3 ⟨[v22, v20]⟩ fun v24 =>
   R (.returned v24))])
theorem F75_den (R : ER) (x0 x1 x2 x3 : Value) : den Pg R (cd Try.f75 []) (argsEnv [x0, x1, x2, x3]) (kont Pg R Try.f75) = F75 R x0 x1 x2 x3 :=
  have h : ∀ e, den Pg R (cd Try.f75 []) e (kont Pg R Try.f75) = F75 R (e 0) (e 1) (e 2) (e 3) := fun e => by kernel_rfl
  h _
theorem F75_calls {R : ER} {x0 x1 x2 x3 : Value} {w : World} (h : F75 R x0 x1 x2 x3 w) : Calls Pg 75 ⟨[x0, x1, x2, x3]⟩ w R :=
  calls_of_den Try.func75 (by kernel_rfl) (by kernel_rfl) (F75_den R x0 x1 x2 x3) h
end Go.Proofs.Ytmmbepdghpjgeaa.Den
end

section
set_option linter.unusedVariables false
set_option linter.unusedSimpArgs false
set_option maxRecDepth 8000
set_option maxHeartbeats 1000000
namespace Go.Proofs.Ytmmbepdghpjgeaa.Den
open Go Go.RowKit
def sortC_ren : Go.Shelf.Ren := ⟨fun | 6 => 74 | 15 => 88 | 14 => 87 | 28 => 101 | 29 => 102 | 20 => 93 | 21 => 94 | 22 => 95 | 23 => 96 | 24 => 97 | 25 => 98 | 26 => 99 | 27 => 100 | 46 => 104 | 47 => 105 | 48 => 106 | 49 => 107 | 50 => 108 | 57 => 109 | n => n, fun | 22 => 123 | 24 => 119 | 25 => 151 | 3 => 3 | 39 => 142 | 0 => 0 | 53 => 23 | 55 => 145 | 4 => 4 | 46 => 171 | 45 => 170 | 50 => 46 | 5 => 5 | 9 => 9 | 66 => 179 | 70 => 183 | 76 => 185 | 77 => 186 | n => n, fun | n => n⟩
theorem sortC : Go.Proofs.SlLaysF0.n6 Try.prog sortC_ren := { mixed := by kernel_rfl, f6 := ⟨Try.f74.name, by decide, Try.func74.trans (congrArg some (by kernel_rfl))⟩, f14 := ⟨Try.f87.name, by decide, Try.func87.trans (congrArg some (by kernel_rfl))⟩, f15 := Try.func88.trans (congrArg some (by kernel_rfl)), f20 := ⟨Try.f93.name, by decide, Try.func93.trans (congrArg some (by kernel_rfl))⟩, f21 := ⟨Try.f94.name, by decide, Try.func94.trans (congrArg some (by kernel_rfl))⟩, f22 := ⟨Try.f95.name, by decide, Try.func95.trans (congrArg some (by kernel_rfl))⟩, f23 := ⟨Try.f96.name, by decide, Try.func96.trans (congrArg some (by kernel_rfl))⟩, f24 := ⟨Try.f97.name, by decide, Try.func97.trans (congrArg some (by kernel_rfl))⟩, f25 := ⟨Try.f98.name, by decide, Try.func98.trans (congrArg some (by kernel_rfl))⟩, f26 := ⟨Try.f99.name, by decide, Try.func99.trans (congrArg some (by kernel_rfl))⟩, f27 := ⟨Try.f100.name, by decide, Try.func100.trans (congrArg some (by kernel_rfl))⟩, f28 := Try.func101.trans (congrArg some (by kernel_rfl)), f29 := Try.func102.trans (congrArg some (by kernel_rfl)), f46 := ⟨Try.f104.name, by decide, Try.func104.trans (congrArg some (by kernel_rfl))⟩, f47 := Try.func105.trans (congrArg some (by kernel_rfl)), f48 := Try.func106.trans (congrArg some (by kernel_rfl)), f49 := ⟨Try.f107.name, by decide, Try.func107.trans (congrArg some (by kernel_rfl))⟩, f50 := ⟨Try.f108.name, by decide, Try.func108.trans (congrArg some (by kernel_rfl))⟩, f57 := ⟨Try.f109.name, by decide, Try.func109.trans (congrArg some (by kernel_rfl))⟩, t0 := Try.underlying0, a0 := Try.isAgg0, z0 := Try.sizeOf0, v0 := Try.zeroValue0, t3 := Try.underlying3, a3 := Try.isAgg3, z3 := Try.sizeOf3, v3 := Try.zeroValue3, t4 := Try.underlying4, a4 := Try.isAgg4, z4 := Try.sizeOf4, v4 := Try.zeroValue4, t5 := Try.underlying5, a5 := Try.isAgg5, z5 := Try.sizeOf5, v5 := Try.zeroValue5, t9 := Try.underlying9, a9 := Try.isAgg9, z9 := Try.sizeOf9, v9 := Try.zeroValue9, t22 := Try.underlying123, a22 := Try.isAgg123, z22 := Try.sizeOf123, v22 := Try.zeroValue123, t25 := Try.underlying151, a25 := Try.isAgg151, z25 := Try.sizeOf151, v25 := Try.zeroValue151, t39 := Try.underlying142, a39 := Try.isAgg142, z39 := Try.sizeOf142, v39 := Try.zeroValue142, t45 := Try.underlying170, a45 := Try.isAgg170, z45 := Try.sizeOf170, v45 := Try.zeroValue170, t46 := Try.underlying171, a46 := Try.isAgg171, z46 := Try.sizeOf171, v46 := Try.zeroValue171, t50 := Try.underlying46, a50 := Try.isAgg46, z50 := Try.sizeOf46, v50 := Try.zeroValue46, t53 := Try.underlying23, a53 := Try.isAgg23, z53 := Try.sizeOf23, v53 := Try.zeroValue23, t55 := Try.underlying145, a55 := Try.isAgg145, z55 := Try.sizeOf145, v55 := Try.zeroValue145, t66 := Try.underlying179, a66 := Try.isAgg179, z66 := Try.sizeOf179, v66 := Try.zeroValue179, t70 := Try.underlying183, a70 := Try.isAgg183, z70 := Try.sizeOf183, v70 := Try.zeroValue183, t76 := Try.underlying185, a76 := Try.isAgg185, z76 := Try.sizeOf185, v76 := Try.zeroValue185, t77 := Try.underlying186, a77 := Try.isAgg186, z77 := Try.sizeOf186, v77 := Try.zeroValue186 }

def cmpZ (a b : Int) : Int := if a < b then -1 else if b < a then 1 else 0
def cmpE (x y : Ey) : Int := if cmpZ x.1 y.1 ≠ 0 then cmpZ x.1 y.1 else cmpZ x.2 y.2
def cmpM (x y : Ey) : Int := cmpZ x.2 y.2
def getE (ents : List (Con × Ey × Nat)) (x : Con) : Ey := (mget x ents).getD (0, 0)
theorem cmpE_lt (x y : Ey) : cmpE x y < 0 ↔ x.1 < y.1 ∨ (x.1 = y.1 ∧ x.2 < y.2) := by
  unfold cmpE cmpZ
  repeat' split
  all_goals omega
theorem cmpM_lt (x y : Ey) : cmpM x y < 0 ↔ x.2 < y.2 := by
  unfold cmpM cmpZ
  repeat' split
  all_goals omega
theorem swoE (ents : List (Con × Ey × Nat)) : Go.Sort.SWO (ltOf fun x y => cmpE (getE ents x) (getE ents y)) where
  irrefl x := by unfold ltOf; rw [decide_eq_false]; rw [cmpE_lt]; omega
  trans x y z h1 h2 := by unfold ltOf at *; rw [decide_eq_true_eq, cmpE_lt] at *; omega
  ntrans x y z h1 h2 := by unfold ltOf at *; rw [decide_eq_false_iff_not, cmpE_lt] at *; omega
theorem swoM (ents : List (Con × Ey × Nat)) : Go.Sort.SWO (ltOf fun x y => cmpM (getE ents x) (getE ents y)) where
  irrefl x := by unfold ltOf; rw [decide_eq_false]; rw [cmpM_lt]; omega
  trans x y z h1 h2 := by unfold ltOf at *; rw [decide_eq_true_eq, cmpM_lt] at *; omega
  ntrans x y z h1 h2 := by unfold ltOf at *; rw [decide_eq_false_iff_not, cmpM_lt] at *; omega
section
variable {w w' w0 : World} {L L' F cs A X Y : List Chunk} {s sr sc : Value} {K : VK} {R : ER} {b i j fb mb : Nat}
theorem Hp.old {a : Addr} {v : Value} (H : Hp w0 w L) (h : w0.cell? a = some v) : w.cell? a = some v := by
  have hl := cell_lt h
  have e := H.ext.block a.block hl (by simp)
  rw [← h]; unfold World.cell?; rw [e]
theorem ld_o {a : Addr} {v : Value} (H : Hp w0 w L) (h : w0.cell? a = some v) (k : K v w) : ld1 (.pointer (some a)) K w := by
  simp only [ld1, H.old h]; exact k
theorem rd_o {a : Addr} {v : Value} {G : WP} (H : Hp w0 w L) (h : w0.cell? a = some v) (g : G w) : rd1 (.pointer (some a)) v G w := rd1_a (H.old h) g
theorem lookup_o {ents : List (Con × Ey × Nat)} {clk : Nat} (x : Con) (H : Hp w0 w L) (h : w0.heap[mb]? = some (mobj kC vE ents clk)) (k : K (vE (getE ents x)) w) : valV Pg R (Instr.lookup 115 (.map (some mb)) (kC x) false) K w := by
  have h' : w.heap[mb]? = some (mobj kC vE ents clk) := heap_ext h H.ext (by simp)
  unfold valV; rw [lookup_run mapC x false h']; exact k
theorem nanI_spec {a : Int} (H : Hp w0 w L) : Calls Pg 76 ⟨[I a]⟩ w fun e w' => e = .returned (.bool false) ∧ Hp w0 w' L := by
  apply F76_calls
  unfold F76
  refine neq_n (by simp) ?_
  exact ⟨rfl, H⟩
theorem cmpI_spec {a b : Int} (H : Hp w0 w L) : Calls Pg 53 ⟨[I a, I b]⟩ w fun e w' => e = .returned (I (cmpZ a b)) ∧ Hp w0 w' L := by
  apply F53_calls
  unfold F53
  refine cal_h (nanI_spec H) ?_
  rintro _ w ⟨rfl, H⟩
  (try simp only [W0])
  refine cal_h (nanI_spec H) ?_
  rintro _ w ⟨rfl, H⟩
  (try simp only [W0])
  unfold F53_j1
  (try simp only [W0])
  refine lss_k (fun h => ?_) (fun h => ?_)
  · (try simp only [W0])
    exact ⟨by rw [cmpZ, if_pos h], H⟩
  · (try simp only [W0])
    refine gtr_k (fun h2 => ?_) (fun h2 => ?_)
    · (try simp only [W0])
      exact ⟨by rw [cmpZ, if_neg h, if_pos h2], H⟩
    · (try simp only [W0])
      exact ⟨by rw [cmpZ, if_neg h, if_neg h2], H⟩
theorem nan6_spec {a : Int} (H : Hp w0 w L) : Calls Pg 86 ⟨[I a]⟩ w fun e w' => e = .returned (.bool false) ∧ Hp w0 w' L := by
  apply F86_calls
  unfold F86
  refine neq_n (by simp) ?_
  exact ⟨rfl, H⟩
theorem cmp6_spec {a b : Int} (H : Hp w0 w L) : Calls Pg 73 ⟨[I a, I b]⟩ w fun e w' => e = .returned (I (cmpZ a b)) ∧ Hp w0 w' L := by
  apply F73_calls
  unfold F73
  refine cal_h (nan6_spec H) ?_
  rintro _ w ⟨rfl, H⟩
  (try simp only [W0])
  refine cal_h (nan6_spec H) ?_
  rintro _ w ⟨rfl, H⟩
  (try simp only [W0])
  unfold F73_j1
  (try simp only [W0])
  refine lss_k (fun h => ?_) (fun h => ?_)
  · (try simp only [W0])
    exact ⟨by rw [cmpZ, if_pos h], H⟩
  · (try simp only [W0])
    refine gtr_k (fun h2 => ?_) (fun h2 => ?_)
    · (try simp only [W0])
      exact ⟨by rw [cmpZ, if_neg h, if_pos h2], H⟩
    · (try simp only [W0])
      exact ⟨by rw [cmpZ, if_neg h, if_neg h2], H⟩
theorem elIntC : ElT 50 3 cI.sz 8 [I 0] := ⟨by kernel_rfl, by kernel_rfl, rfl⟩
theorem or_spec {a b : Int} (h : TR cI w0 cs s [a, b]) (H : Hp w0 w L) (m1 : ∀ c ∈ cs, c ∈ L) : Calls Pg 72 ⟨[s]⟩ w fun e w' => e = .returned (I (if a ≠ 0 then a else b)) ∧ Hp w0 w' L := by
  apply F72_calls
  unfold F72 F72_j2
  refine pv_of (lenS_tr h) ?_
  unfold F72_j3
  refine ⟨3, ?_⟩
  show F72_l1 _ 3 (I 0) s (I 2) (I 0) w
  rw [F72_l1_succ]
  unfold F72_b1
  refine lss_y (by decide) ?_
  (try simp only [W0])
  refine ix1_t (C := cI) (i := 0) h H m1 rfl rfl rfl ?_
  refine neq_k (fun h1 => ?_) (fun h1 => ?_)
  · (try simp only [W0])
    exact ⟨by rw [if_pos h1], H⟩
  (try simp only [W0])
  refine add_k (z := 1) (by decide) (by decide) (by decide) ?_
  rw [F72_l1_succ]
  unfold F72_b1
  refine lss_y (by decide) ?_
  (try simp only [W0])
  refine ix1_t (C := cI) (i := 1) h H m1 rfl rfl rfl ?_
  refine neq_k (fun h2 => ?_) (fun h2 => ?_)
  · (try simp only [W0])
    exact ⟨by rw [if_neg (by simpa using h1)], H⟩
  (try simp only [W0])
  refine add_k (z := 2) (by decide) (by decide) (by decide) ?_
  rw [F72_l1_succ]
  unfold F72_b1
  refine lss_n (by decide) ?_
  (try simp only [W0])
  unfold F72_j1
  exact ⟨by rw [if_neg (by simpa using h1), h2], H⟩
theorem make1_spec {x y : Ey} (H : Hp w0 w L) : Calls Pg 71 ⟨[vE x, vE y]⟩ w fun e w' => e = .returned (I (cmpE x y)) ∧ Hp w0 w' L := by
  apply F71_calls
  unfold F71 vE
  refine bx_m H fun w b1 H => ?_
  refine bx_m H fun w b2 H => ?_
  refine drew_k H fun w H => ?_
  (try simp only [W0])
  refine ld_a ?_
  (try simp only [W0])
  refine ld_a ?_
  have c1 : w.cell? ⟨b1, 1, none⟩ = some (I x.2) := H.cellM (t := 121) (l := [I x.1, I x.2]) has rfl
  have c2 : w.cell? ⟨b2, 1, none⟩ = some (I y.2) := H.cellM (t := 121) (l := [I y.1, I y.2]) has rfl
  (try simp only [W0])
  refine cal_h (cmp6_spec H) ?_
  rintro _ w ⟨rfl, H⟩
  (try simp only [W0])
  refine ldS_m H (o := 1) has rfl (by intro z hz; rw [List.mem_singleton.1 hz]; exact c1) ?_
  (try simp only [W0])
  refine ldS_m H (o := 1) has rfl (by intro z hz; rw [List.mem_singleton.1 hz]; exact c2) ?_
  (try simp only [W0])
  refine cal_h (cmpI_spec H) ?_
  rintro _ w ⟨rfl, H⟩
  (try simp only [W0])
  refine lit_t (C := cI) [cmpZ x.1 y.1, cmpZ x.2 y.2] elIntC H rfl (by decide) (by decide) rfl fun w s9 c9 H h9 => ?_
  refine cal_h (or_spec h9.tr H (fun c hc => List.mem_append_left _ hc)) ?_
  rintro _ w ⟨rfl, H⟩
  (try simp only [W0])
  exact ⟨rfl, H.right.tail.tail⟩
theorem states1_spec {x y : Ey} (H : Hp w0 w L) : Calls Pg 52 ⟨[vE x, vE y]⟩ w fun e w' => e = .returned (I (cmpM x y)) ∧ Hp w0 w' L := by
  apply F52_calls
  unfold F52 vE
  refine bx_m H fun w b1 H => ?_
  refine bx_m H fun w b2 H => ?_
  (try simp only [W0])
  refine ld_a ?_
  (try simp only [W0])
  refine ld_a ?_
  refine cal_h (cmpI_spec H) ?_
  rintro _ w ⟨rfl, H⟩
  (try simp only [W0])
  exact ⟨rfl, H.tail.tail⟩
/-- The order at two keys, with the filter and the order in old memory. -/
theorem ord1_spec {g x2 x3 clk : Nat} {cmp : Ey → Ey → Int} {ents : List (Con × Ey × Nat)} {W : World} (hx2 : W.cell? ⟨x2, 0, none⟩ = some (.func (.func g) ⟨[]⟩ ⟨[]⟩)) (hx3 : W.cell? ⟨x3, 0, none⟩ = some (ptr fb 0)) (hfb : W.cell? ⟨fb, 4, none⟩ = some (.map (some mb)))
    (hmb : W.heap[mb]? = some (mobj kC vE ents clk)) (hg : enterOk Pg g = true) (hcmp : ∀ (a b : Ey) (w : World) (L : List Chunk), Hp W w L → Calls Pg g ⟨[vE a, vE b]⟩ w fun e w' => e = .returned (I (cmp a b)) ∧ Hp W w' L) (x y : Con) :
    Calls Pg 75 ⟨[kC x, kC y, ptr x2 0, ptr x3 0]⟩ W fun e w' => e = .returned (I (cmp (getE ents x) (getE ents y))) ∧ Hp W w' [] := by
  have H : Hp W W [] := Hp.refl W
  apply F75_calls
  unfold F75 kC
  refine bx_m H fun w b1 H => ?_
  refine bx_m H fun w b2 H => ?_
  refine drew_k H fun w H => ?_
  have fin : ∀ {w : World}, Hp W w (⟨b2, .t 119, Con.enc y⟩ :: ⟨b1, .t 119, Con.enc x⟩ :: []) → calD Pg noR (.func (.func g) ⟨[]⟩ ⟨[]⟩) ⟨[vE (getE ents x), vE (getE ents y)]⟩ (fun v18 w' => (Ending.returned v18 = .returned (I (cmp (getE ents x) (getE ents y))) ∧ Hp W w' [])) w := by
    intro w H
    refine calD_k (a := []) (b := [vE (getE ents x), vE (getE ents y)]) (c := []) hg ?_
    refine cal_h (hcmp _ _ w _ H) ?_
    rintro _ w ⟨rfl, H⟩
    (try simp only [W0])
    exact ⟨(by first | rfl | trivial), H.tail.tail⟩
  refine ld_o H hx2 ?_
  refine ld_o H hx3 ?_
  (try simp only [W0])
  refine ld_o H hfb ?_
  refine ldA_m (l := Con.enc x) H has rfl ?_
  refine ld_o H hx3 ?_
  (try simp only [W0])
  refine ld_o H hfb ?_
  refine ldA_m (l := Con.enc y) H has rfl ?_
  refine ⟨?_, ?_⟩
  · refine lookup_o x H hmb ?_
    refine rdA_m H has rfl ?_
    refine rd_o H hfb ?_
    refine rd_o H hx3 ?_
    refine rd_o H hx2 ?_
    (try simp only [W0])
    refine lookup_o y H hmb ?_
    refine rdA_m H has rfl ?_
    refine rd_o H hfb ?_
    refine rd_o H hx3 ?_
    refine rd_o H hx2 ?_
    exact fin H
  · (try simp only [allW, W0])
    refine lookup_o y H hmb ?_
    refine rdA_m H has rfl ?_
    refine rd_o H hfb ?_
    refine rd_o H hx3 ?_
    refine rd_o H hx2 ?_
    (try simp only [W0])
    refine lookup_o x H hmb ?_
    refine rdA_m H has rfl ?_
    refine rd_o H hfb ?_
    refine rd_o H hx3 ?_
    refine rd_o H hx2 ?_
    exact fin H
end
end Go.Proofs.Ytmmbepdghpjgeaa.Den
end

section
set_option linter.unusedVariables false
set_option linter.unusedSimpArgs false
set_option maxRecDepth 8000
set_option maxHeartbeats 1000000
namespace Go.Proofs.Ytmmbepdghpjgeaa.Den
open Go Go.RowKit
def cSt : Cod (Con × Int) := ⟨6, fun x => [I x.1.1, U32 x.1.2.1, U32 x.1.2.2.1, I x.1.2.2.2.1, I x.1.2.2.2.2, I x.2], fun _ => rfl, by intro r c hc; simp only [List.mem_cons, List.not_mem_nil, or_false] at hc; rcases hc with rfl | rfl | rfl | rfl | rfl | rfl <;> rfl⟩
theorem elSt : ElT 63 84 cSt.sz 40 (cSt.enc ((0, 0, 0, 0, 0), 0)) := ⟨by kernel_rfl, by kernel_rfl, rfl⟩
section
variable {w w' w0 : World} {L L' F G cs A X Y : List Chunk} {s sr sc : Value} {K : VK} {R : ER} {b i j fb mb : Nat} {f : FS}
theorem sortC_spec {g x2 x3 clk : Nat} {t2 t3 tf : TypeId} {lf : List Value} {cmp : Ey → Ey → Int} {ents : List (Con × Ey × Nat)} {xs : List Con} (h : TS cCon 119 s xs cs) (H : Hp w0 w (cs ++ G)) (hl : xs.length ≤ 4000)
    (h2 : Has G x2 (.t t2) [.func (.func g) ⟨[]⟩ ⟨[]⟩]) (h3 : Has G x3 (.t t3) [ptr fb 0]) (hf : Has G fb (.t tf) lf) (hlf : lf[4]? = some (.map (some mb))) (hm : Has G mb (.o (mobj kC vE ents clk)) [])
    (hg : enterOk Pg g = true) (hswo : Go.Sort.SWO (ltOf fun x y => cmp (getE ents x) (getE ents y))) (hcmp : ∀ (W : World) (a b : Ey) (w : World) (L : List Chunk), Hp W w L → Calls Pg g ⟨[vE a, vE b]⟩ w fun e w' => e = .returned (I (cmp a b)) ∧ Hp W w' L) :
    Calls Pg 74 ⟨[s, .func (.func 75) ⟨[]⟩ ⟨[ptr x2 0, ptr x3 0]⟩]⟩ w fun e w' => ∃ xs' cs', e = .returned (.tuple ⟨[]⟩) ∧ Hp w0 w' (cs' ++ G) ∧ TS cCon 119 s xs' cs' ∧ xs'.Perm xs ∧ xs'.Pairwise fun x y => ¬ cmp (getE ents y) (getE ents x) < 0 := by
  rcases Nat.eq_zero_or_pos xs.length with h0 | h0
  · have hE : xs = [] := List.length_eq_zero_iff.1 h0
    subst hE
    obtain ⟨p, cap, rfl⟩ : ∃ p cap, s = .slice p 0 cap := by
      rcases h with ⟨_, ⟨a, rfl⟩, _, _⟩ | ⟨b, cap, rest, _, rfl, _⟩
      · exact ⟨a, 0, rfl⟩
      · exact ⟨_, cap, rfl⟩
    refine (AnyF.slices_SortFunc_none sortC p cap (.func (.func 75) ⟨[]⟩ ⟨[ptr x2 0, ptr x3 0]⟩) w).mono ?_
    rintro e w' ⟨rfl, rfl⟩
    exact ⟨[], cs, rfl, H, h, List.Perm.refl _, List.Pairwise.nil⟩
  · obtain ⟨b, cap, rfl, hH, hb, hpost⟩ := sort_bridge h H h0
    have hc := AnyQ.slices_SortFunc sortC 5 Try.isAgg119 Try.sizeOf119 cCon.enc cCon.len (fun x v hv => by simp only [cCon, Con.enc, List.mem_cons, List.not_mem_nil, or_false] at hv; rcases hv with rfl | rfl | rfl | rfl | rfl <;> rfl) (fun x y => cmp (getE ents x) (getE ents y)) hswo 75 ⟨[ptr x2 0, ptr x3 0]⟩ b 0 cap xs.toArray w
      (enters_of Try.func75 (by kernel_rfl) rfl) (fun m os dk hs x y => by
        obtain ⟨cs', H', _⟩ := hpost dk m os (by simpa using hs)
        have hG : ∀ {c : Chunk}, c ∈ G → c ∈ cs' ++ G := fun h => List.mem_append_right _ h
        have e : (#[.agg (cCon.enc x).toArray, .agg (cCon.enc y).toArray] ++ (⟨[ptr x2 0, ptr x3 0]⟩ : Array Value)) = ⟨[kC x, kC y, ptr x2 0, ptr x3 0]⟩ := rfl
        rw [e]
        refine (ord1_spec (g := g) (cmp := cmp) (ents := ents) (fb := fb) (mb := mb) (clk := clk) (H'.cellM (hG h2) rfl) (H'.cellM (hG h3) rfl) (H'.cellM (hG hf) hlf) ((H'.blk _ (hG hm)).2) hg (fun a b w L h => hcmp _ a b w L h) x y).mono ?_
        rintro e w' ⟨rfl, H2⟩
        exact ⟨rfl, ext_grow H2.ext⟩) hH hb (by simp; omega)
    refine Calls.mono hc ?_
    rintro e w' ⟨rfl, d', n, os, hp, hs, rfl⟩
    obtain ⟨g1, g2⟩ := permIn_all hp
    obtain ⟨cs', H', hts⟩ := hpost d' n os (by simpa using g1)
    refine ⟨d'.toList, cs', rfl, H', hts, by simpa using g2, ?_⟩
    have hpw := sortedIn_pw (lt := ltOf fun x y => cmp (getE ents x) (getE ents y)) (d := d') (by rw [g1]; exact hs)
    refine hpw.imp ?_
    intro x y h1
    unfold ltOf at h1
    simpa using h1
theorem bx1 {t : TypeId} {v : Value} (hv : v.cells.toList = [v]) (H : Hp w0 w L) (g : ∀ w' b, Hp w0 w' (⟨b, .t t, [v]⟩ :: L) → K (ptr b 0) w') : bx t v K w := by
  refine bx_h H fun w' b H' => ?_
  rw [hv] at H'; exact g w' b H'
theorem ordered_spec {g : Nat} {cmp : Ey → Ey → Int} (hw : MW f.ents f.mck) (hl : f.ents.length ≤ 4000) (H : Hp w0 w (f.mem fb mb sr sc F))
    (hg : enterOk Pg g = true) (hswo : Go.Sort.SWO (ltOf fun x y => cmp (getE f.ents x) (getE f.ents y))) (hcmp : ∀ (W : World) (a b : Ey) (w : World) (L : List Chunk), Hp W w L → Calls Pg g ⟨[vE a, vE b]⟩ w fun e w' => e = .returned (I (cmp a b)) ∧ Hp W w' L) :
    Calls Pg 51 ⟨[ptr fb 0, .func (.func g) ⟨[]⟩ ⟨[]⟩]⟩ w fun e w' => ∃ s' xs cs', e = .returned s' ∧ Hp w0 w' (cs' ++ f.mem fb mb sr sc F) ∧ TS cCon 119 s' xs cs' ∧ xs.Perm (mkeys f.ents) ∧ xs.Pairwise fun x y => ¬ cmp (getE f.ents y) (getE f.ents x) < 0 := by
  generalize hQ : (fun (e : Ending) (w' : World) => ∃ s' xs cs', e = .returned s' ∧ Hp w0 w' (cs' ++ f.mem fb mb sr sc F) ∧ TS cCon 119 s' xs cs' ∧ xs.Perm (mkeys f.ents) ∧ xs.Pairwise fun x y => ¬ cmp (getE f.ents y) (getE f.ents x) < 0 : ER) = Q
  apply F51_calls
  unfold F51
  refine bx1 rfl H fun w bf H => ?_
  refine bx1 rfl H fun w bg H => ?_
  unfold FS.mem at H
  unfold F51_j2
  refine ld_m H has (o := 0) (v := ptr fb 0) rfl ?_
  (try simp only [W0])
  refine ld_m H has (o := 4) (v := .map (some mb)) rfl ?_
  refine range_h mapC (ents := f.ents) (clock := f.mck) H has fun w r H => ?_
  unfold F51_j3
  refine loop4 (F51_l1_succ _) (fun m y2 y3 x5 x11 w => ∃ (seen : List Nat) (es : List (Con × Ey × Nat)) (c5 : List Chunk), y2 = ptr bf 0 ∧ y3 = ptr bg 0 ∧ x11 = ptr r 0 ∧ seen = es.map (·.2.2) ∧ es.Nodup ∧ (∀ e ∈ es, e ∈ f.ents) ∧ m = (f.ents.filter fun e => decide (e.2.2 ∉ seen)).length ∧ es.length + m ≤ f.ents.length ∧
    TS cCon 119 x5 (es.map (·.1)) c5 ∧
    Hp w0 w (⟨r, .o (iobj mb f.mck seen f.mck), []⟩ :: (c5 ++ (⟨bg, .t 129, [.func (.func g) ⟨[]⟩ ⟨[]⟩]⟩ :: ⟨bf, .t 55, [ptr fb 0]⟩ :: f.mem fb mb sr sc F)))) ?_ (m := (f.ents.filter fun e => decide (e.2.2 ∉ ([] : List Nat))).length)
    ⟨[], [], [], rfl, rfl, rfl, rfl, List.nodup_nil, by simp, rfl, by rw [List.length_nil, Nat.zero_add]; exact List.length_filter_le _ _, TS.nil, H⟩
  clear H
  rintro m k _ _ x5 _ w ⟨seen, es, c5, rfl, rfl, rfl, rfl, hnd, hsub, rfl, hle, h5, H⟩ hk
  unfold F51_b1
  unfold FS.mem at H
  have hndE : f.ents.Nodup := by
    have : (f.ents.map (·.2.2)).Nodup := hw.bn.imp fun h => Nat.ne_of_lt h
    exact (List.pairwise_map.1 this).imp fun h e => h (by rw [e])
  refine next_h (key := kC) (val := vE) (ents := f.ents) (clock := f.mck) H (by unfold Has; simp) (fun e he => hw.lt e he) (Nat.le_refl _) (fun hall => ?_) (fun w e he hns H => ?_)
  · (try simp only [W0])
    unfold F51_j1
    have hperm : es.Perm f.ents := by
      refine (List.perm_ext_iff_of_nodup hnd hndE).2 fun e => ⟨hsub e, fun he => ?_⟩
      have := hall e he
      obtain ⟨e', he', hb⟩ := List.mem_map.1 this
      have hbn : (f.ents.map (·.2.2)).Nodup := hw.bn.imp fun h => Nat.ne_of_lt h
      obtain ⟨i, hi, e1⟩ := List.getElem_of_mem (hsub e' he')
      obtain ⟨j, hj, e2⟩ := List.getElem_of_mem he
      have h3 : (f.ents.map (·.2.2))[i]'(by simpa using hi) = (f.ents.map (·.2.2))[j]'(by simpa using hj) := by
        rw [List.getElem_map, List.getElem_map, e1, e2]; exact hb
      have hij : i = j := nd_inj hbn _ _ h3
      subst hij
      rw [← e2, e1]; exact he'
    have H2 : Hp w0 w (c5 ++ (⟨bg, .t 129, [.func (.func g) ⟨[]⟩ ⟨[]⟩]⟩ :: ⟨bf, .t 55, [ptr fb 0]⟩ :: f.mem fb mb sr sc F)) := H.tail
    refine cal_h (sortC_spec (g := g) (x2 := bg) (x3 := bf) (fb := fb) (mb := mb) (clk := f.mck) (ents := f.ents) (cmp := cmp) (t2 := 129) (t3 := 55) (tf := 117) (lf := [sr, sc, I f.limit, I f.life, .map (some mb), I f.made, I f.clock]) h5 H2 (by rw [List.length_map]; omega) Has.here (Has.cons Has.here) (Has.cons (Has.cons Has.here)) rfl (Has.cons (Has.cons (Has.cons Has.here))) hg hswo hcmp) ?_
    rintro _ w ⟨xs', cs', rfl, H, h6, hp, hpw⟩
    (try simp only [W0])
    subst hQ
    refine ⟨_, xs', cs', rfl, ?_, h6, hp.trans ((hperm.map _).trans (List.Perm.refl _)), hpw⟩
    refine H.to fun q => ?_
    simp only [List.map_append, List.map_cons, List.sum_append, List.sum_cons]; omega
  · (try simp only [W0])
    refine entry_h (key := kC) (val := vE) (ents := f.ents) H (by unfold Has; simp) he hw ?_
    (try simp only [W0])
    refine al_m (ys := [I 0, U32 0, U32 0, I 0, I 0]) H (by kernel_rfl) fun w b5 H => ?_
    unfold kC
    refine stA_m (vs := Con.enc e.1) H updd rfl rfl (Con.enc_sc _) fun w H => ?_
    refine ldA_m (l := Con.enc e.1) H has rfl ?_
    have hm1 : e ∈ f.ents.filter fun x => decide (x.2.2 ∉ es.map (·.2.2)) := List.mem_filter.2 ⟨he, by simpa using hns⟩
    have hdec : (f.ents.filter fun x => decide (x.2.2 ∉ es.map (·.2.2) ++ [e.2.2])).length < (f.ents.filter fun x => decide (x.2.2 ∉ es.map (·.2.2))).length := by
      have hsub2 : List.Sublist (f.ents.filter fun x => decide (x.2.2 ∉ es.map (·.2.2) ++ [e.2.2])) (f.ents.filter fun x => decide (x.2.2 ∉ es.map (·.2.2))) := by
        refine filter_sub (fun x => ?_) f.ents
        simp only [List.mem_append, List.mem_singleton, not_or, decide_eq_true_eq]
        exact fun h => h.1
      refine Nat.lt_of_le_of_ne hsub2.length_le fun h => ?_
      have heq := hsub2.eq_of_length h
      have hm2 := hm1
      rw [← heq] at hm2
      have := (List.mem_filter.1 hm2).2
      simp at this
    have hlt : es.length < f.ents.length := by omega
    have H2 : Hp w0 w (c5 ++ (⟨b5, .t 119, Con.enc e.1⟩ :: ⟨r, .o (iobj mb f.mck (es.map (·.2.2) ++ [e.2.2]) f.mck), []⟩ :: ⟨bg, .t 129, [.func (.func g) ⟨[]⟩ ⟨[]⟩]⟩ :: ⟨bf, .t 55, [ptr fb 0]⟩ :: f.mem fb mb sr sc F)) := H.to fun q => by
      simp only [FS.mem, List.map_append, List.map_cons, List.sum_append, List.sum_cons]; omega
    refine app1_t (C := cCon) (x := e.1) (F := ⟨b5, .t 119, Con.enc e.1⟩ :: ⟨r, .o (iobj mb f.mck (es.map (·.2.2) ++ [e.2.2]) f.mck), []⟩ :: ⟨bg, .t 129, [.func (.func g) ⟨[]⟩ ⟨[]⟩]⟩ :: ⟨bf, .t 55, [ptr fb 0]⟩ :: f.mem fb mb sr sc F) elCon H2 h5 Split.here rfl (by decide) (by simp; omega) (by simp; omega) fun w s6 c6 H h6 => ?_
    refine hk _ _ _ _ _ _ hdec ⟨es.map (·.2.2) ++ [e.2.2], es ++ [e], c6, rfl, rfl, rfl, by simp, ?_, ?_, rfl, by rw [List.length_append, List.length_singleton]; omega, by simpa using h6, H.to fun q => by
      simp only [FS.mem, List.map_append, List.map_cons, List.sum_append, List.sum_cons]; omega⟩
    · rw [List.nodup_append]
      refine ⟨hnd, by simp, ?_⟩
      intro a ha b hb hab
      rw [List.mem_singleton.1 hb] at hab
      subst hab
      exact hns (List.mem_map.2 ⟨_, ha, rfl⟩)
    · intro x hx
      rcases List.mem_append.1 hx with hx | hx
      · exact hsub x hx
      · rw [List.mem_singleton.1 hx]; exact he
end
end Go.Proofs.Ytmmbepdghpjgeaa.Den
end

section
set_option linter.unusedVariables false
set_option linter.unusedSimpArgs false
set_option maxRecDepth 8000
set_option maxHeartbeats 1000000
namespace Go.Proofs.Ytmmbepdghpjgeaa.Den
open Go Go.RowKit
theorem getE_mem {ents : List (Con × Ey × Nat)} {e : Con × Ey × Nat} (hnd : (mkeys ents).Nodup) (he : e ∈ ents) : getE ents e.1 = e.2.1 ∧ mget e.1 ents = some e.2.1 := by
  cases hg : mget e.1 ents with
  | none => exact absurd (List.mem_map.2 ⟨e, he, rfl⟩) (mget_none.1 hg)
  | some v =>
    obtain ⟨n, hm⟩ := mget_some hg
    obtain ⟨i, hi, e1⟩ := List.getElem_of_mem hm
    obtain ⟨j, hj, e2⟩ := List.getElem_of_mem he
    have h3 : (mkeys ents)[i]'(by simpa [mkeys] using hi) = (mkeys ents)[j]'(by simpa [mkeys] using hj) := by
      simp only [mkeys, List.getElem_map, e1, e2]
    have hij : i = j := nd_inj hnd _ _ h3
    subst hij
    rw [e1] at e2
    unfold getE
    rw [hg, ← e2]; exact ⟨rfl, rfl⟩
theorem oldest_some : ∀ {l : List (Con × Ey × Nat)}, l ≠ [] → ∃ d, oldest l = some d ∧ d ∈ l ∧ ∀ e ∈ l, older e d = false
  | [], h => absurd rfl h
  | e :: l, _ => by
    by_cases hl : l = []
    · subst hl
      refine ⟨e, rfl, by simp, fun x hx => ?_⟩
      rw [List.mem_singleton.1 hx]; unfold older; simp
    · obtain ⟨d, h1, h2, h3⟩ := oldest_some hl
      unfold oldest
      rw [h1]
      simp only
      by_cases ho : older d e = true
      · rw [if_pos ho]
        refine ⟨d, rfl, by simp [h2], fun x hx => ?_⟩
        rcases List.mem_cons.1 hx with rfl | hx
        · unfold older at *
          simp only [Bool.or_eq_true, decide_eq_true_eq, Bool.and_eq_true, Bool.or_eq_false_iff, decide_eq_false_iff_not, Bool.and_eq_false_iff] at *
          omega
        · exact h3 x hx
      · rw [if_neg ho]
        refine ⟨e, rfl, by simp, fun x hx => ?_⟩
        rcases List.mem_cons.1 hx with rfl | hx
        · unfold older; simp
        · have h4 := h3 x hx
          have ho' : older d e = false := by simpa using ho
          unfold older at *
          simp only [Bool.or_eq_false_iff, decide_eq_false_iff_not, Bool.and_eq_false_iff] at *
          omega
section
variable {w w' w0 : World} {L L' F G cs A X Y : List Chunk} {s sr sc : Value} {K : VK} {R : ER} {b i j fb mb : Nat} {f : FS}
theorem states_spec (hw : MW f.ents f.mck) (hl : f.ents.length ≤ 4000) (H : Hp w0 w (f.mem fb mb sr sc F)) :
    Calls Pg 22 ⟨[ptr fb 0]⟩ w fun e w' => ∃ (s' : Value) (xs : List Con) (cs' : List Chunk), e = .returned s' ∧ Hp w0 w' (cs' ++ f.mem fb mb sr sc F) ∧ TS cSt 84 s' (xs.map fun x => (x, (getE f.ents x).1)) cs' ∧ xs.Perm (mkeys f.ents) ∧ xs.Pairwise fun x y => ¬ cmpM (getE f.ents y) (getE f.ents x) < 0 := by
  generalize hQ : (fun (e : Ending) (w' : World) => ∃ (s' : Value) (xs : List Con) (cs' : List Chunk), e = .returned s' ∧ Hp w0 w' (cs' ++ f.mem fb mb sr sc F) ∧ TS cSt 84 s' (xs.map fun x => (x, (getE f.ents x).1)) cs' ∧ xs.Perm (mkeys f.ents) ∧ xs.Pairwise fun x y => ¬ cmpM (getE f.ents y) (getE f.ents x) < 0 : ER) = Q
  apply F22_calls
  unfold F22
  (try simp only [W0])
  unfold F22_j1 F22_j3
  refine cal_h (ordered_spec (g := 52) (cmp := cmpM) hw hl H (by kernel_rfl) (swoM _) (fun W a b w L h => states1_spec h)) ?_
  rintro _ w ⟨s9, xs, c9, rfl, H, h9, hp, hpw⟩
  (try simp only [W0])
  have hxl : xs.length ≤ 4000 := by rw [hp.length_eq]; unfold mkeys; rw [List.length_map]; exact hl
  refine pv_of (lenS_ts h9) ?_
  unfold F22_j4
  refine loop5 (F22_l1_succ _) (fun m x0 x3 x9 x10 x11 w => ∃ (i : Nat) (c3 : List Chunk), x0 = ptr fb 0 ∧ s9 = x9 ∧ x10 = I (xs.length : Int) ∧ x11 = I (i : Int) ∧ m + i = xs.length ∧ TS cSt 84 x3 ((xs.take i).map fun x => (x, (getE f.ents x).1)) c3 ∧ Hp w0 w (c3 ++ (c9 ++ f.mem fb mb sr sc F))) ?_ (m := xs.length) ⟨0, [], rfl, rfl, rfl, rfl, rfl, TS.nil, H⟩
  clear H
  rintro m k _ x3 _ _ _ w ⟨i, c3, rfl, rfl, rfl, rfl, hm, h3, H⟩ hk
  unfold F22_b1
  refine lss_k (fun hi => ?_) (fun hi => ?_)
  · (try simp only [W0])
    have hx : xs[i]? = some xs[i] := List.getElem?_eq_getElem (by omega)
    generalize xs[i] = x at hx
    unfold F22_j5
    unfold FS.mem at H
    refine ixN_t (C := cCon) h9.tr H (fun c hc => List.mem_append_right _ (List.mem_append_left _ hc)) hx (by decide) ?_
    refine al_m (ys := [I 0, U32 0, U32 0, I 0, I 0]) H (by kernel_rfl) fun w b5 H => ?_
    refine stA_m (vs := Con.enc x) H updd rfl rfl (Con.enc_sc _) fun w H => ?_
    refine drew_k H fun w H => ?_
    (try simp only [W0])
    refine ld_m H Has.here (o := 0) (v := I x.1) rfl ?_
    (try simp only [W0])
    refine ld_m H Has.here (o := 1) (v := U32 x.2.1) rfl ?_
    (try simp only [W0])
    refine ld_m H Has.here (o := 2) (v := U32 x.2.2.1) rfl ?_
    (try simp only [W0])
    refine ld_m H Has.here (o := 3) (v := I x.2.2.2.1) rfl ?_
    (try simp only [W0])
    refine ld_m H Has.here (o := 4) (v := I x.2.2.2.2) rfl ?_
    (try simp only [W0])
    refine ld_m (b := fb) (t := 117) (l := [sr, sc, I f.limit, I f.life, .map (some mb), I f.made, I f.clock]) H (by unfold Has; simp) (o := 4) (v := .map (some mb)) rfl ?_
    refine ldA_m (l := Con.enc x) H Has.here rfl ?_
    (try simp only [W0])
    refine lookup_h mapC x (ents := f.ents) (clock := f.mck) H (by unfold Has; simp) ?_
    refine rd1_m H Has.here (o := 4) (v := I x.2.2.2.2) rfl ?_
    refine rd1_m H Has.here (o := 3) (v := I x.2.2.2.1) rfl ?_
    refine rd1_m H Has.here (o := 2) (v := U32 x.2.2.1) rfl ?_
    refine rd1_m H Has.here (o := 1) (v := U32 x.2.1) rfl ?_
    refine rd1_m H Has.here (o := 0) (v := I x.1) rfl ?_
    have hfld : fld1 0 (lkv vE (0, 0) (mget x f.ents)) = some (I (getE f.ents x).1) := rfl
    refine pv_of hfld ?_
    refine bld_a ?_
    (try simp only [W0])
    refine app1_t (C := cSt) (x := (x, (getE f.ents x).1)) (F := ⟨b5, .t 119, Con.enc x⟩ :: (c9 ++ (⟨fb, .t 117, [sr, sc, I f.limit, I f.life, .map (some mb), I f.made, I f.clock]⟩ :: ⟨mb, .o (mobj kC vE f.ents f.mck), []⟩ :: F))) elSt H h3 spl rfl (by decide) (by simp; omega) (by simp; omega) fun w s4 c4 H h4 => ?_
    refine add_k (z := ((i + 1 : Nat) : Int)) (by omega) (by omega) (by omega) ?_
    refine hk (m - 1) _ _ _ _ _ _ (by omega) ⟨i + 1, c4, rfl, rfl, rfl, rfl, by omega, by rw [List.take_add_one, hx]; simpa using h4, H.to fun q => by simp only [FS.mem, List.map_append, List.map_cons, List.sum_append, List.sum_cons]; omega⟩
  · (try simp only [W0])
    unfold F22_j2
    rw [List.take_of_length_le (by omega)] at h3
    subst hQ
    refine ⟨x3, xs, c3, rfl, H.to fun q => ?_, h3, hp, hpw⟩
    simp only [List.map_append, List.sum_append]; omega
theorem make_ok (hw : MW f.ents f.mck) (hmd : (f.ents.map fun e => e.2.1.2).Nodup) (hl : f.ents.length ≤ 4000) (hlim : 1 ≤ f.limit) (hm1 : 0 ≤ f.made) (hm2 : f.made < 2 ^ 60) (c : Con) (x : Int) : MakeOK f c x := by
  intro w0 w fb mb sr sc F H
  generalize hQ : (fun (e : Ending) (w' : World) => e = .returned (.tuple ⟨[]⟩) ∧ Hp w0 w' ((f.make c x).mem fb mb sr sc F) : ER) = Q
  apply F50_calls
  unfold F50 kC
  refine bx_m H fun w b4 H => ?_
  -- the end: the number, the entry
  have fin : ∀ (w : World) (f1 : FS), f.make c x = { f1.put c (x, f1.made + 1) with made := f1.made + 1 } → f1.made = f.made → Hp w0 w (⟨b4, .t 119, Con.enc c⟩ :: f1.mem fb mb sr sc F) → F50_j1 Q (ptr fb 0) (I x) (ptr b4 0) w := by
    intro w f1 hmk hmade H
    unfold FS.mem at H
    unfold F50_j1
    (try simp only [W0])
    refine ld_a ?_
    refine add_k (by omega) (by omega) rfl ?_
    (try simp only [W0])
    refine st_m (o := 5) H updd (by simp) rfl fun w H => ?_
    simp only [List.set_cons_zero, List.set_cons_succ] at H
    refine drew_k H fun w H => ?_
    (try simp only [W0])
    refine ld_m H (Has.cons Has.here) (o := 4) (v := .map (some mb)) rfl ?_
    refine ldA_m (l := Con.enc c) H Has.here rfl ?_
    (try simp only [W0])
    refine ld_m H (Has.cons Has.here) (o := 5) (v := I (f1.made + 1)) rfl ?_
    refine bld_a ?_
    (try simp only [W0])
    refine put_h mapC c (x, f1.made + 1) (ents := f1.ents) (clock := f1.mck) H updd fun w H => ?_
    subst hQ
    refine ⟨(by first | rfl | trivial), ?_⟩
    rw [hmk]
    exact H.tail
  unfold F50_j2
  unfold FS.mem at H
  refine drew_k H fun w H => ?_
  (try simp only [W0])
  refine ld_a ?_
  (try simp only [W0])
  have c2 : w.cell? ⟨fb, 2, none⟩ = some (I f.limit) := H.cellM (t := 117) (l := [sr, sc, I f.limit, I f.life, .map (some mb), I f.made, I f.clock]) (Has.cons Has.here) rfl
  refine mlen_h mapC (ents := f.ents) (clock := f.mck) H has ?_
  (try simp only [W0])
  refine ldS_m H (Has.cons Has.here) (o := 2) (v := I f.limit) rfl (by intro z hz; rw [List.mem_singleton.1 hz]; exact c2) ?_
  refine geq_k (fun h => ?_) (fun h => ?_)
  · (try simp only [W0])
    have hne : f.ents ≠ [] := by rintro he; rw [he] at h; simp at h; omega
    obtain ⟨d, d1, d2, d3⟩ := oldest_some hne
    have H2 : Hp w0 w (f.mem fb mb sr sc (⟨b4, .t 119, Con.enc c⟩ :: F)) := H.to fun q => by simp only [FS.mem, List.map_cons, List.sum_cons]; omega
    refine cal_h (ordered_spec (g := 71) (cmp := cmpE) hw hl H2 (by kernel_rfl) (swoE _) (fun W a b w L h => make1_spec h)) ?_
    rintro _ w ⟨s9, xs, c9, rfl, H, h9, hp, hpw⟩
    (try simp only [W0])
    have hxs : ∃ r, xs = d.1 :: r := by
      cases xs with
      | nil =>
        have := hp.length_eq
        unfold mkeys at this
        rw [List.length_map] at this
        exact absurd (List.length_eq_zero_iff.1 this.symm) hne
      | cons y r =>
        refine ⟨r, ?_⟩
        have hy : y ∈ mkeys f.ents := hp.mem_iff.1 (by simp)
        obtain ⟨e, he, rfl⟩ := List.mem_map.1 hy
        have hd : d.1 ∈ e.1 :: r := hp.mem_iff.2 (List.mem_map.2 ⟨d, d2, rfl⟩)
        rcases List.mem_cons.1 hd with h1 | h1
        · rw [h1]
        · have h2 := (List.pairwise_cons.1 hpw).1 _ h1
          rw [(getE_mem hw.nd he).1, (getE_mem hw.nd d2).1, cmpE_lt] at h2
          have h3 := d3 e he
          unfold older at h3
          simp only [Bool.or_eq_false_iff, decide_eq_false_iff_not, Bool.and_eq_false_iff] at h3
          have h4 : e.2.1.2 = d.2.1.2 := by omega
          obtain ⟨i, hi, e1⟩ := List.getElem_of_mem he
          obtain ⟨j, hj, e2⟩ := List.getElem_of_mem d2
          have h5 : (f.ents.map fun e => e.2.1.2)[i]'(by simpa using hi) = (f.ents.map fun e => e.2.1.2)[j]'(by simpa using hj) := by
            rw [List.getElem_map, List.getElem_map, e1, e2]; exact h4
          have hij : i = j := nd_inj hmd _ _ h5
          subst hij
          rw [← e1, e2]
    obtain ⟨r, rfl⟩ := hxs
    unfold FS.mem at H
    refine drew_k H fun w H => ?_
    (try simp only [W0])
    refine ld_m (b := fb) (t := 117) (l := [sr, sc, I f.limit, I f.life, .map (some mb), I f.made, I f.clock]) H (by unfold Has; simp) (o := 4) (v := .map (some mb)) rfl ?_
    refine ixN_t (C := cCon) (i := 0) h9.tr H (fun c hc => List.mem_append_left _ hc) rfl (by decide) ?_
    (try simp only [W0])
    refine delete_h mapC d.1 (ents := f.ents) (clock := f.mck) H updd fun w H => ?_
    refine fin w { f with ents := mdel d.1 f.ents } (by unfold FS.make; simp only; rw [if_pos h, d1]) rfl (H.to fun q => ?_)
    simp only [FS.mem, List.map_append, List.map_cons, List.sum_append, List.sum_cons]; omega
  · (try simp only [W0])
    refine fin w f (by unfold FS.make; simp only; rw [if_neg h]) rfl H
end
end Go.Proofs.Ytmmbepdghpjgeaa.Den
end

section
set_option linter.unusedVariables false
set_option linter.unusedSimpArgs false
set_option maxRecDepth 8000
set_option maxHeartbeats 1000000
namespace Go.Proofs.Ytmmbepdghpjgeaa.Den
open Go Go.RowKit
/-- The reference's filter. -/
structure GS where
  rules : List Rul
  counts : List Int
  limit : Int
  life : Int
  all : List (Con × Int)
  clock : Int
theorem elGSt : ElT 93 87 cSt.sz 40 (cSt.enc ((0, 0, 0, 0, 0), 0)) := ⟨by kernel_rfl, by kernel_rfl, rfl⟩
def GS.mem (gb : Nat) (sr sa sc : Value) (g : GS) (F : List Chunk) : List Chunk := ⟨gb, .t 95, [sr, I g.limit, I g.life, sa, sc, I g.clock]⟩ :: F
def bel (p : Pkt) (c : Con) : Bool := decide (p.con = c) || decide (turned p.con = c)
section
variable {w w' w0 : World} {L L' F cs cs2 A X Y cc cr ca : List Chunk} {s s2 sr sc sa : Value} {K : VK} {R : ER} {b i j gb n : Nat} {g : GS} {p : Pkt}
theorem remove_spec (ha : TS cSt 87 sa g.all ca) (hi : i < g.all.length) (hl : g.all.length ≤ 1000) (hsr : scalar sr = true) (hsc : scalar sc = true) (H : Hp w0 w (g.mem gb sr sa sc (ca ++ F))) :
    Calls Pg 60 ⟨[ptr gb 0, I (i : Int)]⟩ w fun e w' => ∃ sa' ca', e = .returned (.tuple ⟨[]⟩) ∧ TS cSt 87 sa' (g.all.eraseIdx i) ca' ∧ Hp w0 w' (g.mem gb sr sa' sc (ca' ++ F)) := by
  obtain ⟨ka, rfl⟩ := ha.sh
  apply F60_calls
  unfold F60
  unfold GS.mem at H
  refine drew_k H fun w H => ?_
  have c0 : w.cell? ⟨gb, 3, none⟩ = some ka.val := H.cellM (t := 95) (l := [sr, I g.limit, I g.life, ka.val, sc, I g.clock]) Has.here rfl
  (try simp only [W0])
  refine lit0_t (C := cSt) elGSt H fun w1 s1 H h1 => ?_
  have c1 : w1.cell? ⟨gb, 3, none⟩ = some ka.val := H.cellM (t := 95) (l := [sr, I g.limit, I g.life, ka.val, sc, I g.clock]) Has.here rfl
  (try simp only [W0])
  refine ldS_m H Has.here (o := 3) (v := ka.val) rfl (by intro z hz; rw [List.mem_singleton.1 hz]; exact c0) ?_
  obtain ⟨s2, e2, t2⟩ := slRto_t (C := cSt) (w0 := w0) (hi := i) (by decide) ha.tr (by omega)
  refine pv_of e2 ?_
  (try simp only [W0])
  refine append_t (C := cSt) (F := ⟨gb, .t 95, [sr, I g.limit, I g.life, ka.val, sc, I g.clock]⟩ :: (ca ++ F)) elGSt H h1 Split.nil t2 (fun c hc => List.mem_cons_of_mem _ (List.mem_append_left _ hc)) (by simp; omega) (by simp; omega) fun w2 s3 c3 H h3 => ?_
  (try simp only [W0])
  refine ldS_m H (Has.app Has.here) (o := 3) (v := ka.val) rfl (by intro z hz; simp only [List.mem_cons, List.not_mem_nil, or_false] at hz; rcases hz with rfl | rfl; exact c1; exact c0) ?_
  refine add_k (z := ((i + 1 : Nat) : Int)) (by omega) (by omega) (by omega) ?_
  obtain ⟨s4, e4, t4⟩ := slRfrom_t (C := cSt) (w0 := w0) (lo := i + 1) (by decide) ha.tr (by omega)
  refine pv_of e4 ?_
  (try simp only [W0])
  refine append_t (C := cSt) (F := ⟨gb, .t 95, [sr, I g.limit, I g.life, ka.val, sc, I g.clock]⟩ :: (ca ++ F)) elGSt H h3 Split.here t4 (fun c hc => List.mem_append_right _ (List.mem_cons_of_mem _ (List.mem_append_left _ hc))) (by simp; omega) (by simp; omega) fun w5 s5 c5 H h5 => ?_
  obtain ⟨k5, rfl⟩ := h5.sh
  (try simp only [W0])
  refine st_m (o := 3) H (Upd.app Upd.here) (by simp) rfl fun w H => ?_
  simp only [List.set_cons_zero, List.set_cons_succ] at H
  refine ⟨k5.val, c5, (by first | rfl | trivial), ?_, H.to fun q => by simp only [GS.mem, List.map_append, List.map_cons, List.sum_append, List.sum_cons]; omega⟩
  have e : g.all.eraseIdx i = ([] ++ g.all.take i) ++ g.all.drop (i + 1) := by rw [List.nil_append]; exact List.eraseIdx_eq_take_drop_succ ..
  rw [e]; exact h5
theorem and2 {k : IntKind} {e : Bool} {b1 b2 o1 o2 : Nat} {x y : Int} {t1 t2 : TypeId} {l1 l2 : List Value} {G : VK} (g : G (.bool (e && decide (x = y))) w) (H : Hp w0 w L) (m1 : Has L b1 (.t t1) l1) (m2 : Has L b2 (.t t2) l2) (h1 : l1[o1]? = some (.int k x)) (h2 : l2[o2]? = some (.int k y)) :
    gd (.bool e) true (pv (faO o1 (ptr b1 0))) (fun v6 => gd (.bool e) true (ld1 v6) fun v7 => gd (.bool e) true (pv (faO o2 (ptr b2 0))) fun v8 => gd (.bool e) true (ld1 v8) fun v9 => gd (.bool e) true (pv (bin .eql v7 v9)) fun v10 => pv (pickO (.bool e) v10 (.bool false)) G) w := by
  cases e with
  | false => (try simp only [W0]); exact g
  | true =>
    (try simp only [W0])
    refine ld_m H m1 (o := o1) h1 ?_
    (try simp only [W0])
    refine ld_m H m2 (o := o2) h2 ?_
    rw [bin_eql]
    (try simp only [W0])
    exact g
theorem belongs_spec {c : Con × Int} (H : Hp w0 w L) : Calls Pg 61 ⟨[.agg ⟨p.enc⟩, .agg ⟨cSt.enc c⟩]⟩ w fun e w' => e = .returned (.bool (bel p c.1)) ∧ Hp w0 w' L := by
  obtain ⟨⟨c1, c2, c3, c4, c5⟩, x⟩ := c
  apply F61_calls
  unfold F61
  refine bx_m H fun w b1 H => ?_
  refine bx_m (vs := [I c1, U32 c2, U32 c3, I c4, I c5, I x]) H fun w b2 H => ?_
  have m1 : Has (⟨b2, .t 87, [I c1, U32 c2, U32 c3, I c4, I c5, I x]⟩ :: ⟨b1, .t 67, p.enc⟩ :: L) b1 (.t 67) p.enc := Has.cons Has.here
  have m2 : Has (⟨b2, .t 87, [I c1, U32 c2, U32 c3, I c4, I c5, I x]⟩ :: ⟨b1, .t 67, p.enc⟩ :: L) b2 (.t 87) [I c1, U32 c2, U32 c3, I c4, I c5, I x] := Has.here
  (try simp only [W0])
  refine ld_m H m1 (o := 4) (v := I p.proto) rfl ?_
  (try simp only [W0])
  refine ld_m H m2 (o := 0) (v := I c1) rfl ?_
  refine neq_k (fun h => ?_) (fun h => ?_)
  · (try simp only [W0])
    refine ⟨?_, H.tail.tail⟩
    have : bel p (c1, c2, c3, c4, c5) = false := by
      unfold bel
      rw [decide_eq_false, decide_eq_false]; rfl
      · intro e; exact h (congrArg Prod.fst e)
      · intro e; exact h (congrArg Prod.fst e)
    rw [this]
  · (try simp only [W0])
    unfold F61_j1
    (try simp only [W0])
    refine ld_m H m1 (o := 2) (v := U32 p.src) rfl ?_
    (try simp only [W0])
    refine ld_m H m2 (o := 1) (v := U32 c2) rfl ?_
    rw [bin_eql, pv_some]
    refine and2 (o1 := 3) (o2 := 2) (x := p.dst) (y := c3) (k := .u32) ?_ H m1 m2 rfl rfl
    refine and2 (o1 := 5) (o2 := 3) (x := p.fr) (y := c4) (k := .i64) ?_ H m1 m2 rfl rfl
    refine and2 (o1 := 6) (o2 := 4) (x := p.to) (y := c5) (k := .i64) ?_ H m1 m2 rfl rfl
    (try simp only [W0])
    refine ld_m H m1 (o := 2) (v := U32 p.src) rfl ?_
    (try simp only [W0])
    refine ld_m H m2 (o := 2) (v := U32 c3) rfl ?_
    rw [bin_eql, pv_some]
    refine and2 (o1 := 3) (o2 := 1) (x := p.dst) (y := c2) (k := .u32) ?_ H m1 m2 rfl rfl
    refine and2 (o1 := 5) (o2 := 4) (x := p.fr) (y := c5) (k := .i64) ?_ H m1 m2 rfl rfl
    refine and2 (o1 := 6) (o2 := 3) (x := p.to) (y := c4) (k := .i64) ?_ H m1 m2 rfl rfl
    have hb : bel p (c1, c2, c3, c4, c5) = ((((decide (p.src = c2) && decide (p.dst = c3)) && decide (p.fr = c4)) && decide (p.to = c5)) || (((decide (p.src = c3) && decide (p.dst = c2)) && decide (p.fr = c5)) && decide (p.to = c4))) := by
      unfold bel Pkt.con turned
      rw [Bool.eq_iff_iff]
      simp only [Bool.or_eq_true, Bool.and_eq_true, decide_eq_true_eq, Prod.mk.injEq]
      constructor
      · rintro (⟨_, e1, e2, e3, e4⟩ | ⟨_, e1, e2, e3, e4⟩)
        · exact .inl ⟨⟨⟨e1, e2⟩, e3⟩, e4⟩
        · exact .inr ⟨⟨⟨e2, e1⟩, e4⟩, e3⟩
      · rintro (⟨⟨⟨e1, e2⟩, e3⟩, e4⟩ | ⟨⟨⟨e1, e2⟩, e3⟩, e4⟩)
        · exact .inl ⟨h, e1, e2, e3, e4⟩
        · exact .inr ⟨h, e2, e1, e4, e3⟩
    rw [hb]
    cases (((decide (p.src = c2) && decide (p.dst = c3)) && decide (p.fr = c4)) && decide (p.to = c5)) with
    | true => (try simp only [W0]); exact ⟨by simp, H.tail.tail⟩
    | false => (try simp only [W0]); exact ⟨by simp, H.tail.tail⟩
theorem gnew_err {l : List Rul} {limit life : Int} (hl : TR cRul w0 cs s l) (hok : ∀ r ∈ l, r.Ok) (hn : l.length ≤ 20) (H : Hp w0 w L) (m1 : ∀ c ∈ cs, c ∈ L) :
    Calls Pg 27 ⟨[s, I limit, I life]⟩ w fun e w' => (newErr l limit life ≠ 0 ∧ e = .returned (.tuple ⟨[.pointer none, I (newErr l limit life)]⟩) ∧ Hp w0 w' L) ∨
      (newErr l limit life = 0 ∧ ∃ (gb : Nat) (sr sc : Value) (cr cc : List Chunk), e = .returned (.tuple ⟨[ptr gb 0, I 0]⟩) ∧ TS cRul 38 sr l cr ∧ TS cI 2 sc (List.replicate l.length 0) cc ∧
      Hp w0 w' (⟨gb, .t 95, [sr, I limit, I life, .slice none 0 0, sc, I 0]⟩ :: (cc ++ (cr ++ L)))) := by
  generalize hQ : (fun (e : Ending) (w' : World) => (newErr l limit life ≠ 0 ∧ e = .returned (.tuple ⟨[.pointer none, I (newErr l limit life)]⟩) ∧ Hp w0 w' L) ∨
      (newErr l limit life = 0 ∧ ∃ (gb : Nat) (sr sc : Value) (cr cc : List Chunk), e = .returned (.tuple ⟨[ptr gb 0, I 0]⟩) ∧ TS cRul 38 sr l cr ∧ TS cI 2 sc (List.replicate l.length 0) cc ∧
      Hp w0 w' (⟨gb, .t 95, [sr, I limit, I life, .slice none 0 0, sc, I 0]⟩ :: (cc ++ (cr ++ L)))) : ER) = Q
  have ca : checkAll l = firstBad l := by rw [checkAll, if_neg (by omega)]
  apply F27_calls
  unfold F27
  refine pv_of (lenS_tr hl) ?_
  refine gtr_n (by omega) ?_
  (try simp only [W0])
  unfold F27_j1 F27_j5 F27_j6
  refine loop4 (F27_l1_succ _) (fun m y0 y1 y2 y8 w => ∃ i : Nat, s = y0 ∧ y1 = I limit ∧ y2 = I life ∧ y8 = I (i : Int) ∧ m + i = l.length ∧ firstBad l = firstBad (l.drop i) ∧ Hp w0 w L) ?_ (m := l.length) ⟨0, rfl, rfl, rfl, rfl, rfl, by rw [List.drop_zero], H⟩
  clear H
  rintro m k _ _ _ _ w ⟨i, rfl, rfl, rfl, rfl, hm, he, H⟩ hk
  unfold F27_b1
  refine pv_of (lenS_tr hl) ?_
  refine lss_k (fun hi => ?_) (fun hi => ?_)
  · (try simp only [W0])
    have hx : l[i]? = some l[i] := List.getElem?_eq_getElem (by omega)
    generalize l[i] = r at hx
    unfold F27_j7
    refine ixN_t (C := cRul) hl H m1 hx (by decide) ?_
    refine cal_h (gcheck_spec (hok r (List.mem_of_getElem? hx)) H) ?_
    rintro _ w ⟨rfl, H⟩
    (try simp only [W0])
    rw [firstBad_drop hx] at he
    refine neq_k (fun h3 => ?_) (fun h3 => ?_)
    · (try simp only [W0])
      rw [if_pos h3] at he
      have hne : newErr l limit life = r.check := by unfold newErr; rw [ca, he, if_pos h3]
      subst hQ
      exact .inl ⟨by rw [hne]; exact h3, by rw [hne], H⟩
    · (try simp only [W0])
      rw [if_neg (by simpa using h3)] at he
      refine add_k (z := ((i + 1 : Nat) : Int)) (by omega) (by omega) (by omega) ?_
      exact hk (m - 1) _ _ _ _ _ (by omega) ⟨i + 1, rfl, rfl, rfl, rfl, by omega, he, H⟩
  · (try simp only [W0])
    rw [List.drop_of_length_le (by omega)] at he
    have hb : firstBad l = 0 := he
    have e0 : newErr l limit life = if !inn limit 1 100 || decide (life < 1) || decide (1099511627776 < life) then 34 else 0 := by unfold newErr; rw [ca, hb, if_neg (by decide)]
    have bad : (!inn limit 1 100 || decide (life < 1) || decide (1099511627776 < life)) = true → Q (.returned (.tuple ⟨[.pointer none, I 34]⟩)) w := by
      intro h
      rw [h, if_pos rfl] at e0
      subst hQ
      exact .inl ⟨by rw [e0]; decide, by rw [e0], H⟩
    unfold F27_j2 F27_j4
    have hin : inn limit 1 100 = (decide (1 ≤ limit) && decide (limit ≤ 100)) := rfl
    refine lss_k (fun h1 => ?_) (fun h1 => ?_)
    · (try simp only [W0])
      exact bad (by rw [hin, decide_eq_false (by omega)]; rfl)
    (try simp only [W0])
    refine gtr_k (fun h2 => ?_) (fun h2 => ?_)
    · (try simp only [W0])
      exact bad (by rw [hin, decide_eq_false (show ¬ limit ≤ 100 by omega)]; simp)
    (try simp only [W0])
    refine lss_k (fun h3 => ?_) (fun h3 => ?_)
    · (try simp only [W0])
      exact bad (by rw [decide_eq_true h3]; simp)
    (try simp only [W0])
    refine gtr_k (fun h4 => ?_) (fun h4 => ?_)
    · (try simp only [W0])
      exact bad (by rw [decide_eq_true h4]; simp)
    (try simp only [W0])
    have e1 : newErr l limit life = 0 := by
      rw [e0, hin, decide_eq_true (show 1 ≤ limit by omega), decide_eq_true (show limit ≤ 100 by omega), decide_eq_false h3, decide_eq_false h4]; rfl
    unfold F27_j3
    refine drew_k H fun w H => ?_
    refine pv_of (lenS_tr hl) ?_
    (try simp only [W0])
    have fin : ∀ (w : World) (sr sc : Value) (cr cc : List Chunk), TS cRul 38 sr l cr → TS cI 2 sc (List.replicate l.length 0) cc → Hp w0 w (cc ++ (cr ++ L)) →
        pv (bldO [.slice none 0 0, .int .i64 0, .int .i64 0, .slice none 0 0, .slice none 0 0, .int .i64 0] [(0,1, sr), (1,1, I limit), (2,1, I life), (4,1, sc)]) (fun v8 => bx 95 v8 fun v9 => Q (.returned (.tuple ⟨[v9, (.int .i64 0)]⟩))) w := by
      intro w sr sc cr cc t1 t2 H
      obtain ⟨k1, rfl⟩ := t1.sh
      obtain ⟨k2, rfl⟩ := t2.sh
      refine bld_a ?_
      refine bx_m H fun w gb H => ?_
      subst hQ
      exact .inr ⟨e1, gb, _, _, cr, cc, rfl, t1, t2, H⟩
    have mk : ∀ {L : List Chunk} {w : World} {K : VK} (H : Hp w0 w L) (k : ∀ w' s cs, Hp w0 w' (cs ++ L) → TS cI 2 s (List.replicate l.length 0) cs → K s w'), valV Pg noR (Instr.makeSlice 91 (I (l.length : Int)) (I (l.length : Int))) K w :=
      fun H k => make_t (C := cI) (x := 0) elI64 rfl H rfl (by omega) (by omega) k
    refine ⟨?_, ?_⟩
    · refine lit0_t (C := cRul) elGRul H fun w s1 H h1 => ?_
      (try simp only [W0])
      refine ⟨?_, ?_⟩
      · refine append_t (C := cRul) (F := L) elGRul H h1 Split.nil hl m1 (by simp; omega) (by simp; omega) fun w sr cr H tr => ?_
        (try simp only [W0])
        refine mk H fun w sc cc H tc => ?_
        (try simp only [W0])
        exact fin w sr sc cr cc (by simpa using tr) tc H
      · (try simp only [allW, W0])
        refine mk H fun w sc cc H tc => ?_
        (try simp only [W0])
        refine append_t (C := cRul) (F := cc ++ L) elGRul H h1 Split.nil hl (fun c hc => List.mem_append_right _ (m1 c hc)) (by simp; omega) (by simp; omega) fun w sr cr H tr => ?_
        (try simp only [W0])
        exact fin w sr sc cr cc (by simpa using tr) tc H.re
    · (try simp only [allW, W0])
      refine mk H fun w sc cc H tc => ?_
      (try simp only [W0])
      refine lit0_t (C := cRul) elGRul H fun w s1 H h1 => ?_
      (try simp only [W0])
      refine append_t (C := cRul) (F := cc ++ L) elGRul H h1 Split.nil hl (fun c hc => List.mem_append_right _ (m1 c hc)) (by simp; omega) (by simp; omega) fun w sr cr H tr => ?_
      (try simp only [W0])
      exact fin w sr sc cr cc (by simpa using tr) tc H.re
end
end Go.Proofs.Ytmmbepdghpjgeaa.Den
end

section
set_option linter.unusedVariables false
set_option linter.unusedSimpArgs false
set_option maxRecDepth 8000
set_option maxHeartbeats 1000000
namespace Go.Proofs.Ytmmbepdghpjgeaa.Den
open Go Go.RowKit
theorem elInt : ElT 50 3 cI.sz 8 [I 0] := ⟨by kernel_rfl, by kernel_rfl, rfl⟩
theorem dec_rev (l : List Rul) (p : Pkt) : dec0 (l.map (q0 false)) p = dec0 (l.map (q0 true)).reverse p := by
  have h : newErr (l.map (q0 false)) 1 1 = 0 ↔ newErr (l.map (q0 true)).reverse 1 1 = 0 := by
    rw [newErr_one, newErr_one, List.length_reverse, List.length_map, List.length_map]
    refine and_congr_right fun _ => ⟨fun h r hr => ?_, fun h r hr => ?_⟩
    · obtain ⟨a, ha, rfl⟩ := List.mem_map.1 (List.mem_reverse.1 hr)
      exact h (q0 false a) (List.mem_map.2 ⟨a, ha, rfl⟩)
    · obtain ⟨a, ha, rfl⟩ := List.mem_map.1 hr
      exact h (q0 true a) (List.mem_reverse.2 (List.mem_map.2 ⟨a, ha, rfl⟩))
  unfold dec0
  by_cases h1 : newErr (l.map (q0 false)) 1 1 ≠ 0 ∨ p.check ≠ 0
  · rw [if_pos h1, if_pos]
    rcases h1 with h1 | h1
    · exact .inl fun h2 => h1 (h.2 h2)
    · exact .inr h1
  · rw [if_neg h1, if_neg, reversed_act]
    rintro (h2 | h2)
    · exact h1 (.inl fun h3 => h2 (h.1 h3))
    · exact h1 (.inr h2)
theorem dec_cons {l : List Rul} {p : Pkt} {r : Rul} (hd : (dec0 l p).2 = true) (hl : l.length ≤ 20) (hr : r.check = 0) : dec0 (q0 true r :: l) p = (if r.fits p then r.act else (dec0 l p).1, true) := by
  unfold dec0 at hd ⊢
  split at hd
  · cases hd
  rename_i h
  have h1 : newErr l 1 1 = 0 := Decidable.not_not.1 fun h' => h (.inl h')
  have h2 : p.check = 0 := Decidable.not_not.1 fun h' => h (.inr h')
  have h3 : newErr (q0 true r :: l) 1 1 = 0 := by
    rw [newErr_one] at h1 ⊢
    refine ⟨by simp only [List.length_cons]; omega, fun x hx => ?_⟩
    rcases List.mem_cons.1 hx with rfl | hx
    · exact hr
    · exact h1.2 x hx
  rw [if_neg (by simp [h3, h2]), if_neg h, act0_eq, act0_eq]
  show ((if (!r.fits p) = true then actF p l 1 else if true = true then r.act else _), true) = _
  cases r.fits p <;> rfl
section
variable {w w' w0 : World} {L L' F cs A X Y cc cr : List Chunk} {s sr sc : Value} {K : VK} {R : ER} {b i j fb mb n : Nat} {p : Pkt} {l : List Rul} {r : Rul}
theorem reversed_law (hl : TR cRul w0 cs s l) (hok : ∀ r ∈ l, r.Ok) (hp : p.Ok) (hn : l.length < 2 ^ 63) (H : Hp w0 w L) (m1 : ∀ c ∈ cs, c ∈ L) :
    Calls Pg 6 ⟨[s, .agg ⟨p.enc⟩]⟩ w fun e w' => e = .returned (.bool true) ∧ Hp w0 w' L := by
  generalize hQ : (fun (e : Ending) (w' : World) => e = .returned (.bool true) ∧ Hp w0 w' L : ER) = Q
  apply F6_calls
  unfold F6
  refine bx_m H fun w b3 H => ?_
  refine pv_of (lenS_tr hl) ?_
  refine gtr_k (fun h20 => ?_) (fun h20 => ?_)
  · (try simp only [W0])
    refine cal_h (awake_spec H) ?_
    rintro _ w ⟨rfl, H⟩
    (try simp only [W0])
    subst hQ
    exact ⟨(by first | rfl | trivial), H.tail⟩
  · (try simp only [W0])
    unfold F6_j1 F6_j3
    refine pv_of (lenS_tr hl) ?_
    unfold F6_j4
    refine loop6 (F6_l1_succ _) (fun m x3 x5 x6 x17 x18 x19 w => ∃ (i : Nat) (ca cb : List Chunk), x3 = ptr b3 0 ∧ s = x17 ∧ x18 = I (l.length : Int) ∧ x19 = I (i : Int) ∧ m + i = l.length ∧
      TS cRul 29 x5 ((l.take i).map (q0 false)) ca ∧ TS cRul 29 x6 ((l.take i).map (q0 true)) cb ∧ Hp w0 w (ca ++ (cb ++ (⟨b3, .t 45, p.enc⟩ :: L)))) ?_ (m := l.length) ⟨0, [], [], rfl, rfl, rfl, rfl, rfl, TS.nil, TS.nil, H⟩
    clear H
    rintro m k _ x5 x6 _ _ _ w ⟨i, ca, cb, rfl, rfl, rfl, rfl, hm, ha, hb, H⟩ hk
    unfold F6_b1
    refine lss_k (fun hi => ?_) (fun hi => ?_)
    · (try simp only [W0])
      have hx : l[i]? = some l[i] := List.getElem?_eq_getElem (by omega)
      generalize l[i] = r at hx
      have htk : ∀ b, (l.take (i + 1)).map (q0 b) = (l.take i).map (q0 b) ++ [q0 b r] := by
        intro b; rw [List.take_add_one, hx]; simp
      unfold F6_j5
      refine ixN_t (C := cRul) hl H (fun c hc => List.mem_append_right _ (List.mem_append_right _ (List.mem_cons_of_mem _ (m1 c hc)))) hx (by decide) ?_
      refine al_m (ys := rul0.enc) H (by kernel_rfl) fun w b7 H => ?_
      refine stA_m (vs := r.enc) H updd rfl rfl (by exact r.enc_sc) fun w H => ?_
      (try simp only [W0])
      refine st_m (o := 1) H updd (by simp [Rul.enc]) rfl fun w H => ?_
      replace H : Hp w0 w (⟨b7, .t 29, (q0 false r).enc⟩ :: (ca ++ (cb ++ (⟨b3, .t 45, p.enc⟩ :: L)))) := H
      refine ldA_m (l := (q0 false r).enc) H has rfl ?_
      refine app1_t (C := cRul) (x := q0 false r) (F := ⟨b7, .t 29, (q0 false r).enc⟩ :: (cb ++ (⟨b3, .t 45, p.enc⟩ :: L))) elRul H ha spl rfl (by decide) (by simp; omega) (by simp; omega) fun w sa ca' H ha' => ?_
      (try simp only [W0])
      have H2 : Hp w0 w (⟨b7, .t 29, (q0 false r).enc⟩ :: (ca' ++ (cb ++ (⟨b3, .t 45, p.enc⟩ :: L)))) := H.re
      refine st_m (o := 1) H2 updd (by simp [Rul.enc]) rfl fun w H => ?_
      replace H : Hp w0 w (⟨b7, .t 29, (q0 true r).enc⟩ :: (ca' ++ (cb ++ (⟨b3, .t 45, p.enc⟩ :: L)))) := H
      refine ldA_m (l := (q0 true r).enc) H has rfl ?_
      refine app1_t (C := cRul) (x := q0 true r) (F := ⟨b7, .t 29, (q0 true r).enc⟩ :: (ca' ++ (⟨b3, .t 45, p.enc⟩ :: L))) elRul H hb spl rfl (by decide) (by simp; omega) (by simp; omega) fun w sb cb' H hb' => ?_
      refine add_k (z := ((i + 1 : Nat) : Int)) (by omega) (by omega) (by omega) ?_
      exact hk (m - 1) _ _ _ _ _ _ _ (by omega) ⟨i + 1, ca', cb', rfl, rfl, rfl, rfl, by omega, by rw [htk]; exact ha', by rw [htk]; exact hb', H.re⟩
    · (try simp only [W0])
      rw [List.take_of_length_le (by omega)] at ha hb
      have hlen : l.length ≤ 20 := by omega
      have hokq : ∀ b, ∀ r ∈ l.map (q0 b), r.Ok := by
        intro b r hr
        obtain ⟨a, ha, rfl⟩ := List.mem_map.1 hr
        exact hok a ha
      unfold F6_j2
      have H2 : Hp w0 w (cb ++ (ca ++ (⟨b3, .t 45, p.enc⟩ :: L))) := H.re
      refine cal_h (rev_spec hb H2 (by simp; omega)) ?_
      rintro _ w ⟨cb', rfl, H, hb⟩
      (try simp only [W0])
      refine ldA_m (l := p.enc) H has rfl ?_
      refine cal_h (decide39_spec ha.tr (hokq false) hp (by simp; omega) H (fun c hc => List.mem_append_right _ (List.mem_append_left _ hc))) ?_
      rintro _ w ⟨rfl, H⟩
      (try simp only [W0])
      refine ldA_m (l := p.enc) H has rfl ?_
      refine cal_h (decide39_spec hb.tr (fun r hr => hokq true r (List.mem_reverse.1 hr)) hp (by simp; omega) H (fun c hc => List.mem_append_left _ hc)) ?_
      rintro _ w ⟨rfl, H⟩
      rw [dec_rev]
      generalize dec0 (l.map (q0 true)).reverse p = d
      obtain ⟨d1, d2⟩ := d
      (try simp only [W0])
      have hbb : binB .eql (.bool d2) (.bool d2) = some (.bool true) := by cases d2 <;> rfl
      refine pv_of hbb ?_
      (try simp only [W0])
      refine eql_y rfl ?_
      (try simp only [W0])
      refine cal_h (awake_spec H) ?_
      rintro _ w ⟨rfl, H⟩
      (try simp only [W0])
      subst hQ
      exact ⟨(by first | rfl | trivial), H.right.right.tail⟩
theorem quick_law (hl : TR cRul w0 cs s l) (hok : ∀ r ∈ l, r.Ok) (hr : r.Ok) (hp : p.Ok) (hn : l.length < 2 ^ 63) (H : Hp w0 w L) (m1 : ∀ c ∈ cs, c ∈ L) :
    Calls Pg 4 ⟨[.agg ⟨r.enc⟩, s, .agg ⟨p.enc⟩]⟩ w fun e w' => e = .returned (.bool true) ∧ Hp w0 w' L := by
  generalize hQ : (fun (e : Ending) (w' : World) => e = .returned (.bool true) ∧ Hp w0 w' L : ER) = Q
  apply F4_calls
  unfold F4
  refine bx_m H fun w b3 H => ?_
  refine bx_m H fun w b5 H => ?_
  refine ldA_m (l := p.enc) H has rfl ?_
  refine cal_h (decide39_spec hl hok hp hn H (fun c hc => List.mem_cons_of_mem _ (List.mem_cons_of_mem _ (m1 c hc)))) ?_
  rintro _ w ⟨rfl, H⟩
  (try simp only [W0])
  unfold F4_j8
  refine pv_of (lenS_tr hl) ?_
  have aw : ∀ w, Hp w0 w (⟨b5, .t 45, p.enc⟩ :: ⟨b3, .t 29, r.enc⟩ :: L) → cal Pg Q 10 ⟨[]⟩ (fun v67 => Q (.returned v67)) w := by
    intro w H
    refine cal_h (awake_spec H) ?_
    rintro _ w ⟨rfl, H⟩
    subst hQ
    exact ⟨(by first | rfl | trivial), H.tail.tail⟩
  refine gtr_k (fun h20 => ?_) (fun h20 => ?_)
  · (try simp only [W0])
    exact aw w H
  have hlen : l.length ≤ 20 := by omega
  cases hd : (dec0 l p).2 with
  | false =>
    (try simp only [W0])
    exact aw w H
  | true =>
  (try simp only [W0])
  refine ldA_m (l := r.enc) H has rfl ?_
  (try simp only [W0])
  refine cal_h (rcheck_spec hr H) ?_
  rintro _ w ⟨rfl, H⟩
  (try simp only [W0])
  refine neq_k (fun hrc => ?_) (fun hrc => ?_)
  · (try simp only [W0])
    exact aw w H
  (try simp only [W0])
  unfold F4_j1
  (try simp only [W0])
  refine st_m (o := 1) H updd (by simp [Rul.enc]) rfl fun w H => ?_
  replace H : Hp w0 w (⟨b5, .t 45, p.enc⟩ :: ⟨b3, .t 29, (q0 true r).enc⟩ :: L) := H
  have hpc : p.check = 0 := by
    unfold dec0 at hd
    split at hd
    · cases hd
    rename_i h
    exact Decidable.not_not.1 fun h' => h (.inr h')
  -- one call of decide with a rule in front
  have front : ∀ (w : World) (b7 : Nat) (G : List Chunk) (x : Rul) (K : VK), x.Ok → x.check = 0 → (∀ c ∈ cs, c ∈ G) → Hp w0 w (⟨b7, .t 29, (q0 true x).enc⟩ :: ⟨b5, .t 45, p.enc⟩ :: G) →
      (∀ w', Hp w0 w' (⟨b7, .t 29, (q0 true x).enc⟩ :: ⟨b5, .t 45, p.enc⟩ :: G) → K (.tuple ⟨[I (if x.fits p then x.act else (dec0 l p).1), .bool true]⟩) w') →
      drewV (ldN 16 (ptr b7 0) fun v48 => mem fun w50 => valV Pg noR (Instr.buildSlice 43 1 ⟨[(0, v48)]⟩) fun v49 => mem fun w52 => blt Pg noR .append ⟨[43,43]⟩ 43 ⟨[false, false]⟩ ⟨[v49, s]⟩ fun v51 =>
        ldNS [w52, w50] 8 (ptr b5 0) fun v53 => mem fun w55 => cal Pg noR 14 ⟨[v51, v53]⟩ K) w := by
    intro w b7 G x K hx1 hx2 mG H g
    refine drew_k H fun w H => ?_
    refine ldA_m (l := (q0 true x).enc) H has rfl ?_
    have H50 := H
    have hop : ∀ {w : World} {L : List Chunk}, Hp w0 w L → Has L b5 (.t 45) p.enc → cellsAt w ⟨b5, 0, none⟩ 0 8 = some p.enc := fun H hm => H.cellsM hm rfl
    have c50 := hop H has
    simp only [W0]
    refine lit1_t (C := cRul) (x := q0 true x) elRul H rfl (by decide) fun w1 s1 c1 H h1 => ?_
    have c52 := hop H (Has.app has)
    refine append_t (C := cRul) (F := ⟨b7, .t 29, (q0 true x).enc⟩ :: ⟨b5, .t 45, p.enc⟩ :: G) elRul H h1 Split.here hl (fun c hc => List.mem_append_right _ (List.mem_cons_of_mem _ (List.mem_cons_of_mem _ (mG c hc)))) (by simp; omega) (by simp; omega) fun w2 s2 c2 H h2 => ?_
    refine ldNS_m (l := p.enc) H (Has.app has) rfl ?_ ?_
    · intro x hx
      simp only [List.mem_cons, List.not_mem_nil, or_false] at hx
      rcases hx with rfl | rfl
      · exact c52
      · exact c50
    refine cal_h (decide39_spec (l := q0 true x :: l) h2.tr (by intro y hy; rcases List.mem_cons.1 hy with rfl | hy; exact hx1; exact hok y hy) hp (by simp; omega) H (fun c hc => List.mem_append_left _ hc)) ?_
    rintro _ w ⟨rfl, H⟩
    rw [dec_cons hd hlen hx2]
    exact g w H.right
  have H2 : Hp w0 w (⟨b3, .t 29, (q0 true r).enc⟩ :: ⟨b5, .t 45, p.enc⟩ :: L) := H.re
  have hrc' : r.check = 0 := by simpa using hrc
  refine front w b3 L r _ hr hrc' m1 H2 fun w H => ?_
  (try simp only [W0])
  unfold F4_j7
  (try simp only [W0])
  refine ldA_m (l := (q0 true r).enc) H has rfl ?_
  (try simp only [W0])
  refine ldA_m (l := p.enc) H has rfl ?_
  (try simp only [W0])
  have hmt : (decide ((q0 true r).check = 0) && decide (p.check = 0) && (q0 true r).fits p) = r.fits p := by
    rw [decide_eq_true (show (q0 true r).check = 0 from hrc'), decide_eq_true hpc]; rfl
  refine cal_h (matches_spec (r := q0 true r) hr hp H) ?_
  rintro _ w ⟨rfl, H⟩
  rw [hmt]
  have rest : ∀ w, Hp w0 w (⟨b3, .t 29, (q0 true r).enc⟩ :: ⟨b5, .t 45, p.enc⟩ :: L) → F4_j2 Q s (ptr b5 0) w := by
    clear H H2
    intro w H
    unfold F4_j2 F4_j4
    refine lit_t (C := cI) [1, 2] elInt H rfl (by decide) (by decide) rfl fun w s9 c9 H h9 => ?_
    refine pv_of (lenS_ts h9) ?_
    unfold F4_j5
    refine loop5 (F4_l1_succ _) (fun m x1 x5 x69 x70 x71 w => ∃ (i : Nat), s = x1 ∧ x5 = ptr b5 0 ∧ s9 = x69 ∧ x70 = I 2 ∧ x71 = I (i : Int) ∧ m + i = 2 ∧ Hp w0 w (c9 ++ (⟨b3, .t 29, (q0 true r).enc⟩ :: ⟨b5, .t 45, p.enc⟩ :: L))) ?_ (m := 2) ⟨0, rfl, rfl, rfl, rfl, rfl, rfl, H⟩
    clear H
    rintro m k _ _ _ _ _ w ⟨i, rfl, rfl, rfl, rfl, rfl, hm, H⟩ hk
    unfold F4_b1
    refine lss_k (fun hi => ?_) (fun hi => ?_)
    · (try simp only [W0])
      obtain ⟨act, hx, hact⟩ : ∃ act, ([1, 2] : List Int)[i]? = some act ∧ (act = 1 ∨ act = 2) := by
        have : i = 0 ∨ i = 1 := by omega
        rcases this with rfl | rfl
        · exact ⟨1, rfl, .inl rfl⟩
        · exact ⟨2, rfl, .inr rfl⟩
      unfold F4_j6
      refine ix1_t (C := cI) h9.tr H (fun c hc => List.mem_append_left _ hc) hx rfl rfl ?_
      refine cal_h (any39_spec H) ?_
      rintro _ w ⟨rfl, H⟩
      (try simp only [W0])
      refine al_m (ys := rul0.enc) H (by kernel_rfl) fun w b7 H => ?_
      refine stA_m (vs := (anyRul act).enc) H updd rfl rfl (Rul.enc_sc _) fun w H => ?_
      (try simp only [W0])
      refine st_m (o := 1) H updd (by simp [Rul.enc]) rfl fun w H => ?_
      replace H : Hp w0 w (⟨b7, .t 29, (q0 true (anyRul act)).enc⟩ :: (c9 ++ (⟨b3, .t 29, (q0 true r).enc⟩ :: ⟨b5, .t 45, p.enc⟩ :: L))) := H
      have H3 : Hp w0 w (⟨b7, .t 29, (q0 true (anyRul act)).enc⟩ :: ⟨b5, .t 45, p.enc⟩ :: (c9 ++ (⟨b3, .t 29, (q0 true r).enc⟩ :: L))) := H.re
      refine front w b7 _ (anyRul act) _ (any_ok act) (any_check hact) (fun c hc => List.mem_append_right _ (List.mem_cons_of_mem _ (m1 c hc))) H3 fun w H => ?_
      rw [any_fits hp hpc]
      (try simp only [W0])
      refine neq_n (by simp [anyRul]) ?_
      (try simp only [W0])
      refine add_k (z := ((i + 1 : Nat) : Int)) (by omega) (by omega) (by omega) ?_
      have H4 : Hp w0 w (c9 ++ (⟨b3, .t 29, (q0 true r).enc⟩ :: ⟨b5, .t 45, p.enc⟩ :: L)) := (H.tail).re
      exact hk (m - 1) _ _ _ _ _ _ (by omega) ⟨i + 1, rfl, rfl, rfl, rfl, rfl, by omega, H4⟩
    · (try simp only [W0])
      unfold F4_j3
      refine cal_h (awake_spec H) ?_
      rintro _ w ⟨rfl, H⟩
      (try simp only [W0])
      subst hQ
      exact ⟨(by first | rfl | trivial), H.right.tail.tail⟩
  cases hf : r.fits p with
  | false =>
    (try simp only [W0])
    simp only [Bool.false_eq_true, if_false]
    refine neq_n (by simp) ?_
    (try simp only [W0])
    refine ldA_m (l := (q0 true r).enc) H has rfl ?_
    (try simp only [W0])
    refine ldA_m (l := p.enc) H has rfl ?_
    (try simp only [W0])
    refine cal_h (matches_spec (r := q0 true r) hr hp H) ?_
    rintro _ w ⟨rfl, H⟩
    rw [hmt, hf]
    (try simp only [W0])
    exact rest w H
  | true =>
    (try simp only [W0])
    simp only [if_true]
    refine ldA_m (l := (q0 true r).enc) H has rfl ?_
    (try simp only [W0])
    refine ldA_m (l := p.enc) H has rfl ?_
    (try simp only [W0])
    refine cal_h (matches_spec (r := q0 true r) hr hp H) ?_
    rintro _ w ⟨rfl, H⟩
    rw [hmt, hf]
    (try simp only [W0])
    refine ld_m H has (o := 0) (v := I r.act) rfl ?_
    (try simp only [W0])
    refine neq_n (by simp) ?_
    (try simp only [W0])
    exact rest w H
end
end Go.Proofs.Ytmmbepdghpjgeaa.Den
end

section
set_option linter.unusedVariables false
set_option linter.unusedSimpArgs false
set_option maxRecDepth 8000
set_option maxHeartbeats 1000000
namespace Go.Proofs.Ytmmbepdghpjgeaa.Den
open Go Go.RowKit
section
variable {α : Type} {C : Cod α} {xs : List α} {x x' : α} {w w' w0 : World} {L L' F cs : List Chunk} {s v : Value} {K : VK} {el i f : Nat}
theorem lay_one {l : List Value} {o f sz : Nat} {en en' : List Value} (h1 : en'.length = sz) (h2 : o + sz ≤ l.length) (h3 : (l.drop o).take sz = en) (h4 : en' = en.set f v) (h5 : f < sz) : l.set (o + f) v = lay l o en' := by
  apply List.ext_getElem?
  intro j
  unfold lay
  rw [List.getElem?_set]
  have hlt : (l.take o).length = o := by rw [List.length_take]; omega
  rcases Nat.lt_or_ge j o with h | h
  · rw [if_neg (by omega), List.append_assoc, List.getElem?_append_left (by omega), List.getElem?_take, if_pos h]
  · rcases Nat.lt_or_ge j (o + sz) with h' | h'
    · rw [List.append_assoc, List.getElem?_append_right (by omega), hlt, List.getElem?_append_left (by omega), h4, List.getElem?_set]
      have hen : en[j - o]? = l[j]? := by
        rw [← h3, List.getElem?_take, if_pos (by omega), List.getElem?_drop]; congr 1; omega
      have hel : en.length = sz := by rw [← h3, List.length_take, List.length_drop]; omega
      by_cases hj : o + f = j
      · rw [if_pos hj, if_pos (by omega), if_pos (by omega), if_pos (by omega)]
      · rw [if_neg hj, if_neg (by omega), hen]
    · rw [if_neg (by omega), List.getElem?_append_right (by rw [List.length_append]; omega), List.length_append, hlt, h1, List.getElem?_drop]
      congr 1; omega
/-- Writing a field of an element. -/
theorem istF_t {k : IntKind} (h : TS C el s xs cs) (H : Hp w0 w L) (hS : Split L cs F) (hx : xs[i]? = some x) (hf : f < C.sz) (hx' : C.enc x' = (C.enc x).set f v) (hv : scalar v = true)
    (g : ∀ w' cs', Hp w0 w' (cs' ++ F) → TS C el s (xs.set i x') cs' → K undef w') : pv (ixS C.sz s (.int k (i : Int))) (fun p => pv (faO f p) fun q => st1 q v K) w := by
  have hi := (List.getElem?_eq_some_iff.1 hx).1
  obtain ⟨b, e, rest, rfl, h2⟩ := h.at hi (k := k)
  rw [e, pv_some, show faO f (ptr b (i * C.sz)) = some (ptr b (i * C.sz + f)) from faO_mk _ _ _, pv_some]
  have hil : (i + 1) * C.sz ≤ xs.length * C.sz := Nat.mul_le_mul_right _ hi
  rw [Nat.succ_mul] at hil
  have hle : i * C.sz + C.sz ≤ (C.all xs ++ rest).length := by rw [List.length_append, all_len]; omega
  refine st_m (H.split hS) Upd.here (by omega) hv fun w' H' => g w' _ H' (h2 x' _ ?_)
  refine lay_one (C.len x') hle ?_ hx' hf
  rw [List.drop_append_of_le_length (by rw [all_len]; omega), List.take_append_of_le_length (by rw [List.length_drop, all_len]; omega)]
  exact all_part hx
end
def k0 (r : Rul) : Rul := { r with keep := false }
theorem map_step {l : List Rul} {i : Nat} {r : Rul} (h : l[i]? = some r) : ((l.take i).map k0 ++ l.drop i).set i (k0 r) = (l.take (i + 1)).map k0 ++ l.drop (i + 1) := by
  have hi := (List.getElem?_eq_some_iff.1 h).1
  rw [List.set_append_right _ _ (by simp; omega)]
  have : i - ((l.take i).map k0).length = 0 := by simp; omega
  rw [this, List.drop_eq_getElem_cons hi, List.set_cons_zero, List.take_add_one, h]; simp
section
variable {w w' w0 : World} {L L' F cs cs2 A X Y cc cr : List Chunk} {s s2 sr sc : Value} {K : VK} {R : ER} {b i j fb mb n : Nat} {l : List Rul} {ps : List Pkt}
theorem order_law (hl : TR cRul w0 cs s l) (hok : ∀ r ∈ l, r.Ok) (hps : TR cPkt w0 cs2 s2 ps) (hpk : ∀ p ∈ ps, p.Ok) (hn : l.length < 2 ^ 63) (H : Hp w0 w L) (m1 : ∀ c ∈ cs, c ∈ L) (m2 : ∀ c ∈ cs2, c ∈ L) :
    Calls Pg 5 ⟨[s, s2]⟩ w fun e w' => e = .returned (.bool true) ∧ Hp w0 w' L := by
  generalize hQ : (fun (e : Ending) (w' : World) => e = .returned (.bool true) ∧ Hp w0 w' L : ER) = Q
  have aw : ∀ w A, Hp w0 w (A ++ L) → cal Pg Q 10 ⟨[]⟩ (fun v67 => Q (.returned v67)) w := by
    intro w A H
    refine cal_h (awake_spec H) ?_
    rintro _ w ⟨rfl, H⟩
    subst hQ
    exact ⟨(by first | rfl | trivial), H.right⟩
  apply F5_calls
  unfold F5
  refine pv_of (lenS_tr hl) ?_
  refine gtr_k (fun h20 => ?_) (fun h20 => ?_)
  · (try simp only [W0])
    exact aw w [] H
  (try simp only [W0])
  refine pv_of (lenS_tr hps) ?_
  (try simp only [W0])
  refine gtr_k (fun h30 => ?_) (fun h30 => ?_)
  · (try simp only [W0])
    exact aw w [] H
  (try simp only [W0])
  unfold F5_j1
  refine cal_h (cloneRul_spec hl H m1 (by omega)) ?_
  rintro _ w ⟨s0, c0, rfl, H, h0⟩
  (try simp only [W0])
  unfold F5_j8
  refine pv_of (lenS_ts h0) ?_
  unfold F5_j9
  refine loop4 (F5_l2_succ _) (fun m x0 x1 x27 x28 w => ∃ (i : Nat) (c0 : List Chunk), s0 = x0 ∧ s2 = x1 ∧ x27 = I (l.length : Int) ∧ x28 = I (i : Int) ∧ m + i = l.length ∧ TS cRul 29 s0 ((l.take i).map k0 ++ l.drop i) c0 ∧ Hp w0 w (c0 ++ L)) ?_ (m := l.length) ⟨0, c0, rfl, rfl, rfl, rfl, rfl, by simpa using h0, H⟩
  clear H h0 c0
  rintro m k _ _ _ _ w ⟨i, c0, rfl, rfl, rfl, rfl, hm, h0, H⟩ hk
  unfold F5_b2
  refine lss_k (fun hi => ?_) (fun hi => ?_)
  · (try simp only [W0])
    have hx : l[i]? = some l[i] := List.getElem?_eq_getElem (by omega)
    generalize l[i] = r at hx
    have hx2 : ((l.take i).map k0 ++ l.drop i)[i]? = some r := by
      rw [List.getElem?_append_right (by simp; omega)]
      have : i - ((l.take i).map k0).length = 0 := by simp; omega
      rw [this, List.getElem?_drop]; simpa using hx
    refine istF_t (C := cRul) (f := 2) (x' := k0 r) (v := .bool false) h0 H Split.here hx2 (by decide) rfl rfl fun w c0 H h0 => ?_
    rw [map_step hx] at h0
    refine add_k (z := ((i + 1 : Nat) : Int)) (by omega) (by omega) (by omega) ?_
    exact hk (m - 1) _ _ _ _ _ (by omega) ⟨i + 1, c0, rfl, rfl, rfl, rfl, by omega, h0, H⟩
  · (try simp only [W0])
    rw [List.take_of_length_le (by omega), List.drop_of_length_le (by omega), List.append_nil] at h0
    have hokk : ∀ r ∈ l.map k0, r.Ok := by
      intro r hr
      obtain ⟨a, ha, rfl⟩ := List.mem_map.1 hr
      exact hok a ha
    have hkk : ∀ r ∈ l.map k0, r.keep = false := by
      intro r hr
      obtain ⟨a, ha, rfl⟩ := List.mem_map.1 hr
      rfl
    have hlk : (l.map k0).length < 2 ^ 63 := by simp; omega
    generalize l.map k0 = lk at *
    unfold F5_j2
    by_cases he : newErr lk 1 1 = 0
    · refine cal_h (new_ok (limit := 1) (life := 1) h0.tr hokk H (fun c hc => List.mem_append_left _ hc) he hlk) ?_
      rintro _ w ⟨fb, mb, sr, sc, cr, cc, rfl, h2, h3, H⟩
      (try simp only [W0])
      refine neq_n (by decide) ?_
      (try simp only [W0])
      unfold F5_j3 F5_j5
      refine pv_of (lenS_tr hps) ?_
      unfold F5_j6
      refine loop5 (F5_l1_succ _) (fun m x0 x6 x44 x45 x46 w => ∃ (i : Nat) (f : FS) (cc : List Chunk), s0 = x0 ∧ x6 = ptr fb 0 ∧ s2 = x44 ∧ x45 = I (ps.length : Int) ∧ x46 = I (i : Int) ∧ m + i = ps.length ∧ f.Inv i ∧ f.ents = [] ∧ f.rules = lk ∧ f.clock ≤ 5 ∧
        TS cI 2 sc f.counts cc ∧ Hp w0 w (f.mem fb mb sr sc (cc ++ (cr ++ (c0 ++ L))))) ?_ (m := ps.length) ⟨0, ⟨lk, List.replicate lk.length 0, 1, 1, [], 0, 0, 0⟩, cc, rfl, rfl, rfl, rfl, rfl, rfl, newFS_inv hokk he, rfl, rfl, by show (0 : Int) ≤ 5; decide, h3, H⟩
      clear H h3 cc
      rintro m k _ _ _ _ _ w ⟨i, f, cc, rfl, rfl, rfl, rfl, rfl, hm, hinv, hfe, hfr, hfc, h3, H⟩ hk
      unfold F5_b1
      refine lss_k (fun hi => ?_) (fun hi => ?_)
      · (try simp only [W0])
        have hx : ps[i]? = some ps[i] := List.getElem?_eq_getElem (by omega)
        generalize ps[i] = p at hx
        have hp := hpk p (List.mem_of_getElem? hx)
        unfold F5_j7
        refine ixN_t (C := cPkt) hps H (fun c hc => List.mem_cons_of_mem _ (List.mem_cons_of_mem _ (List.mem_append_right _ (List.mem_append_right _ (List.mem_append_right _ (m2 c hc)))))) hx (by decide) ?_
        refine al_m (ys := [I 0, I 0, U32 0, U32 0, I 0, I 0, I 0, .bool false]) H (by kernel_rfl) fun w b4 H => ?_
        refine stA_m (vs := p.enc) H updd rfl rfl p.enc_sc fun w H => ?_
        refine ldA_m (l := p.enc) H has rfl ?_
        have hnk : nokeep f.rules p := by intro r hr hk; rw [hfr] at hr; rw [hkk r hr] at hk; cases hk
        have H2 : Hp w0 w (f.mem fb mb sr sc (cc ++ (cr ++ (⟨b4, .t 45, p.enc⟩ :: (c0 ++ L))))) := H.to fun q => by simp only [FS.mem, List.map_append, List.map_cons, List.sum_append, List.sum_cons]; omega
        refine cal_h (decide_spec (f := f) (p := p) (now := 5) (cr := cr) (F := cr ++ (⟨b4, .t 45, p.enc⟩ :: (c0 ++ L))) hinv (by omega) hp (by rw [hfr]; exact h2.tr) (fun c hc => List.mem_append_left _ hc) h3
          (by intro r hr hk; rw [hfr] at hr; rw [hkk r (List.mem_of_getElem? hr)] at hk; cases hk) H2) ?_
        rintro _ w ⟨cc', rfl, h4, H⟩
        have hplain := FS.decide_plain (f := f) (p := p) (now := 5) hfe (by decide) (by decide) hfc hnk
        have hinv' := hinv.plain hfe (by decide) (by decide) hfc hnk
        obtain ⟨e1, e2, e3, e4, _⟩ := hplain
        generalize hfd : f.decide p 5 = fd at *
        obtain ⟨res, f'⟩ := fd
        simp only at e1 e2 e3 e4 h4 H hinv'
        subst e1
        (try simp only [W0])
        refine ldA_m (b := b4) (l := p.enc) (t := 45) H (by unfold Has FS.mem; simp) rfl ?_
        refine cal_h (decide39_spec (l := lk) h0.tr hokk hp hlk H (fun c hc => by unfold FS.mem; simp [hc])) ?_
        rintro _ w ⟨rfl, H⟩
        (try simp only [W0])
        have fin : ∀ w, Hp w0 w (f'.mem fb mb sr sc (cc' ++ (cr ++ (⟨b4, .t 45, p.enc⟩ :: (c0 ++ L))))) → pv (bin .add (I (i : Int)) (.int .i64 1)) (fun v20 => k s0 (ptr fb 0) s2 (I (ps.length : Int)) v20) w := by
          intro w H
          refine add_k (z := ((i + 1 : Nat) : Int)) (by omega) (by omega) (by omega) ?_
          refine hk (m - 1) _ _ _ _ _ _ (by omega) ⟨i + 1, f', cc', rfl, rfl, rfl, rfl, rfl, by omega, hinv', e2, e3.trans hfr, e4, h4, H.to fun q => by simp only [FS.mem, List.map_append, List.map_cons, List.sum_append, List.sum_cons]; omega⟩
        by_cases hpc : p.check = 0
        · have ed : dec0 lk p = (act0 lk p, true) := by unfold dec0; rw [if_neg (by simp [he, hpc])]
          rw [if_neg (by simp [hpc]), ed, hfr]
          (try simp only [W0])
          refine eql_y (by decide) ?_
          refine pv_of (v := .bool false) rfl ?_
          (try simp only [W0])
          refine neq_n (by simp) ?_
          (try simp only [W0])
          exact fin w H
        · have ed : dec0 lk p = (0, false) := by unfold dec0; rw [if_pos (.inr hpc)]
          rw [if_pos hpc, ed]
          (try simp only [W0])
          refine eql_n hpc ?_
          refine pv_of (v := .bool false) rfl ?_
          (try simp only [W0])
          refine neq_n (by simp) ?_
          (try simp only [W0])
          exact fin w H
      · (try simp only [W0])
        unfold F5_j4
        exact aw w (⟨fb, .t 117, [sr, sc, I f.limit, I f.life, .map (some mb), I f.made, I f.clock]⟩ :: ⟨mb, .o (mobj kC vE f.ents f.mck), []⟩ :: (cc ++ (cr ++ c0))) (H.to fun q => by simp only [FS.mem, List.cons_append, List.map_append, List.map_cons, List.sum_append, List.sum_cons]; omega)
    · refine cal_h (new_err (limit := 1) (life := 1) h0.tr hokk hlk H (fun c hc => List.mem_append_left _ hc) he) ?_
      rintro _ w ⟨rfl, H⟩
      (try simp only [W0])
      refine neq_y he ?_
      (try simp only [W0])
      exact aw w c0 H
end
end Go.Proofs.Ytmmbepdghpjgeaa.Den
end

section
set_option linter.unusedVariables false
set_option linter.unusedSimpArgs false
set_option maxRecDepth 8000
set_option maxHeartbeats 1000000
namespace Go.Proofs.Ytmmbepdghpjgeaa.Den
open Go Go.RowKit
def GS.expire (g : GS) (now : Int) : GS := { g with clock := now, all := g.all.filter fun s => decide (now < s.2) }
def GS.count (g : GS) (i : Nat) : GS := { g with counts := g.counts.set i (g.counts.getD i 0 + 1) }
/-- The place of the first one that expires first. -/
def oldR : List (Con × Int) → Nat → Nat → Int → Nat
  | [], _, old, _ => old
  | s :: l, i, old, x => if s.2 < x then oldR l (i + 1) i s.2 else oldR l (i + 1) old x
def oldI : List (Con × Int) → Nat
  | [] => 0
  | s :: l => oldR l 1 0 s.2
def GS.make (g : GS) (c : Con) (x : Int) : GS :=
  let g := if (g.all.length : Int) = g.limit then { g with all := g.all.eraseIdx (oldI g.all) } else g
  { g with all := g.all ++ [(c, x)] }
def GS.rule (g : GS) (p : Pkt) (now : Int) : (Int × Int × Int) × GS :=
  let i := deciding g.rules p
  if i < 0 then ((1, -2, 0), g)
  else match g.rules[i.toNat]? with
    | none => ((0, 0, 0), g)
    | some r => ((r.act, i, 0), if r.keep && p.start then (g.count i.toNat).make p.con (now + g.life) else g.count i.toNat)
def GS.decide (g : GS) (p : Pkt) (now : Int) : (Int × Int × Int) × GS :=
  if p.check ≠ 0 then ((0, 0, p.check), g)
  else if now < 0 ∨ 1099511627776 < now then ((0, 0, 34), g)
  else if now < g.clock then ((0, 0, 30), g)
  else match (g.expire now).all.findIdx? (fun s => bel p s.1) with
    | some i => ((1, -1, 0), { g.expire now with all := (g.expire now).all.modify i fun s => (s.1, now + g.life) })
    | none => (g.expire now).rule p now
structure GS.Inv (n : Nat) (g : GS) : Prop where
  l1 : 1 ≤ g.life
  l2 : g.life ≤ 1099511627776
  cl : g.counts.length = g.rules.length
  cb : ∀ c ∈ g.counts, 0 ≤ c ∧ c ≤ n
  rok : ∀ r ∈ g.rules, r.Ok ∧ r.check = 0
  rl : g.rules.length ≤ 200
  al : g.all.length ≤ 100
  lim : 1 ≤ g.limit ∧ g.limit ≤ 100
theorem oldR_lt : ∀ (l : List (Con × Int)) (i old : Nat) (x : Int) (n : Nat), old < n → i + l.length ≤ n → oldR l i old x < n
  | [], i, old, x, n, h, _ => h
  | s :: l, i, old, x, n, h, h2 => by
    unfold oldR
    simp only [List.length_cons] at h2
    split
    · exact oldR_lt l (i + 1) i s.2 n (by omega) (by omega)
    · exact oldR_lt l (i + 1) old x n h (by omega)
theorem oldI_lt {l : List (Con × Int)} (h : l ≠ []) : oldI l < l.length := by
  cases l with
  | nil => exact absurd rfl h
  | cons s l => exact oldR_lt l 1 0 s.2 _ (by simp) (by simp; omega)
section
variable {w w' w0 : World} {L L' F cs cs2 A X Y cc cr ca : List Chunk} {s s2 sr sc sa : Value} {K : VK} {R : ER} {b i j gb n b4 : Nat} {g : GS} {p : Pkt} {now : Int}
/-- The states whose time has come are removed. -/
theorem gexpire_walk {Q : ER} (hl : g.all.length ≤ 1000) (hsr : scalar sr = true) (hsc : scalar sc = true) (hc : g.clock = now) (ha : TS cSt 87 sa g.all ca) (H : Hp w0 w (g.mem gb sr sa sc (ca ++ F)))
    (k : ∀ w' sa' ca', TS cSt 87 sa' (g.expire now).all ca' → Hp w0 w' ((g.expire now).mem gb sr sa' sc (ca' ++ F)) → F31_j4 Q (ptr gb 0) (I now) (ptr b4 0) w') :
    F31_j24 Q (ptr gb 0) (I now) (ptr b4 0) w := by
  unfold F31_j24 F31_j25
  refine loop4 (F31_l3_succ _) (fun m y0 y2 y4 y10 w => ∃ (pre rest : List (Con × Int)) (sa : Value) (ca : List Chunk), y0 = ptr gb 0 ∧ y2 = I now ∧ y4 = ptr b4 0 ∧ y10 = I (pre.length : Int) ∧ m = rest.length ∧ pre.length + rest.length ≤ g.all.length ∧
    (g.expire now).all = pre ++ rest.filter (fun s => decide (now < s.2)) ∧ TS cSt 87 sa (pre ++ rest) ca ∧ Hp w0 w (({ g with all := pre ++ rest } : GS).mem gb sr sa sc (ca ++ F))) ?_ (m := g.all.length)
    ⟨[], g.all, sa, ca, rfl, rfl, rfl, rfl, rfl, by simp, rfl, ha, H⟩
  clear H ha
  rintro m kk _ _ _ _ w ⟨pre, rest, sa, ca, rfl, rfl, rfl, rfl, rfl, hle, he, ha, H⟩ hk
  have hsa : scalar sa = true := ha.sc
  unfold F31_b3
  have H0 := H
  unfold GS.mem at H
  (try simp only [W0])
  refine ld_m H Has.here (o := 3) (v := sa) rfl ?_
  refine pv_of (lenS_ts ha) ?_
  cases rest with
  | nil =>
    refine lss_n (by simp) ?_
    (try simp only [W0])
    refine k w sa ca ?_ ?_
    · rw [he]; simpa using ha
    · have : (g.expire now) = { g with all := pre ++ [], clock := now } := by
        unfold GS.expire at he ⊢
        simp only at he
        rw [he]; simp
      rw [this]; subst hc; exact H0
  | cons q rest =>
    refine lss_y (by simp; omega) ?_
    (try simp only [W0])
    unfold F31_j26
    (try simp only [W0])
    refine ld_m H Has.here (o := 3) (v := sa) rfl ?_
    have hx : (pre ++ q :: rest)[pre.length]? = some q := by simp
    refine ixF_t (C := cSt) (f := 5) (v := I q.2) ha.tr H (fun c hc => List.mem_cons_of_mem _ (List.mem_append_left _ hc)) hx rfl ?_
    refine leq_k (fun h => ?_) (fun h => ?_)
    · (try simp only [W0])
      refine cal_h (remove_spec (g := { g with all := pre ++ q :: rest }) (i := pre.length) ha (by simp) (by simp only [List.length_append, List.length_cons] at *; omega) hsr hsc H0) ?_
      rintro _ w ⟨sa', ca', rfl, ha', H⟩
      (try simp only [W0])
      have hE : (pre ++ q :: rest).eraseIdx pre.length = pre ++ rest := by
        rw [List.eraseIdx_append_of_length_le (Nat.le_refl _), Nat.sub_self]; rfl
      simp only [hE] at ha'
      refine hk rest.length _ _ _ _ _ (by simp) ⟨pre, rest, sa', ca', rfl, rfl, rfl, rfl, rfl, by simp only [List.length_cons] at hle; omega, ?_, ha', H⟩
      rw [he, List.filter_cons, if_neg (by simp; omega)]
    · (try simp only [W0])
      refine add_k (z := (((pre ++ [q]).length : Nat) : Int)) (by simp only [List.length_cons] at hle; omega) (by simp only [List.length_cons] at hle; omega) (by simp) ?_
      refine hk rest.length _ _ _ _ _ (by simp) ⟨pre ++ [q], rest, sa, ca, rfl, rfl, rfl, rfl, rfl, by simp only [List.length_append, List.length_cons, List.length_nil] at *; omega, ?_, by simpa using ha, ?_⟩
      · rw [he, List.filter_cons, if_pos (by simp; omega)]; simp
      · have : pre ++ [q] ++ rest = pre ++ q :: rest := by simp
        rw [this]; exact H0
/-- A new state is appended. -/
theorem gappend_walk {Q : ER} {k : Int} (hi : g.Inv n) (hal : g.all.length ≤ 100) (hp : 0 ≤ now ∧ now ≤ 1099511627776) (hsr : scalar sr = true) (hsc : scalar sc = true) (ha : TS cSt 87 sa g.all ca) (hb4 : Has F b4 (.t 67) p.enc) (H : Hp w0 w (g.mem gb sr sa sc (ca ++ F)))
    (kk : ∀ w' sa' ca', TS cSt 87 sa' (g.all ++ [(p.con, now + g.life)]) ca' → Hp w0 w' (({ g with all := g.all ++ [(p.con, now + g.life)] } : GS).mem gb sr sa' sc (ca' ++ F)) → F31_j7 Q (ptr gb 0) (I k) w') :
    F31_j11 Q (ptr gb 0) (I now) (ptr b4 0) (I k) w := by
  obtain ⟨ka, rfl⟩ := ha.sh
  unfold F31_j11
  unfold GS.mem at H
  refine drew_k H fun w H => ?_
  have hg : ∀ {M : List Chunk}, Has (M ++ (⟨gb, .t 95, [sr, I g.limit, I g.life, ka.val, sc, I g.clock]⟩ :: (ca ++ F))) gb (.t 95) [sr, I g.limit, I g.life, ka.val, sc, I g.clock] := fun {M} => Has.app Has.here
  have hb : ∀ {M : List Chunk}, Has (M ++ (⟨gb, .t 95, [sr, I g.limit, I g.life, ka.val, sc, I g.clock]⟩ :: (ca ++ F))) b4 (.t 67) p.enc := fun {M} => Has.app (Has.cons (Has.app hb4))
  have ldg : ∀ {M : List Chunk} {w : World} {o : Nat} {v : Value} {K : VK} (H : Hp w0 w (M ++ (⟨gb, .t 95, [sr, I g.limit, I g.life, ka.val, sc, I g.clock]⟩ :: (ca ++ F)))) (hv : [sr, I g.limit, I g.life, ka.val, sc, I g.clock][o]? = some v), K v w → ld1 (.pointer (some ⟨gb, o, none⟩)) K w := fun H hv k => ld_m H hg hv k
  replace H : Hp w0 w ([] ++ (⟨gb, .t 95, [sr, I g.limit, I g.life, ka.val, sc, I g.clock]⟩ :: (ca ++ F))) := H
  (try simp only [W0])
  refine ld_m H (hg (M := [])) (o := 3) (v := ka.val) rfl ?_
  (try simp only [W0])
  refine ld_m H (hb (M := [])) (o := 4) (v := I p.proto) rfl ?_
  (try simp only [W0])
  refine ld_m H (hb (M := [])) (o := 2) (v := U32 p.src) rfl ?_
  (try simp only [W0])
  refine ld_m H (hb (M := [])) (o := 3) (v := U32 p.dst) rfl ?_
  (try simp only [W0])
  refine ld_m H (hb (M := [])) (o := 5) (v := I p.fr) rfl ?_
  (try simp only [W0])
  refine ld_m H (hb (M := [])) (o := 6) (v := I p.to) rfl ?_
  (try simp only [W0])
  refine ld_m H (hg (M := [])) (o := 2) (v := I g.life) rfl ?_
  refine add_k (by have := hi.l1; omega) (by have := hi.l2; omega) rfl ?_
  refine bld_a ?_
  -- the reads that must stand
  have r1 : ∀ {M : List Chunk} {w : World} {G : WP}, Hp w0 w (M ++ (⟨gb, .t 95, [sr, I g.limit, I g.life, ka.val, sc, I g.clock]⟩ :: (ca ++ F))) → G w → rd1 (.pointer (some ⟨gb, 3, none⟩)) ka.val G w := fun {M} {w} {G} H h => rd1_m H hg (o := 3) rfl h
  have r6 : ∀ {M : List Chunk} {w : World} {G : WP}, Hp w0 w (M ++ (⟨gb, .t 95, [sr, I g.limit, I g.life, ka.val, sc, I g.clock]⟩ :: (ca ++ F))) → G w →
      rd1 (.pointer (some ⟨gb, 2, none⟩)) (I g.life) (rd1 (.pointer (some ⟨b4, 6, none⟩)) (I p.to) (rd1 (.pointer (some ⟨b4, 5, none⟩)) (I p.fr) (rd1 (.pointer (some ⟨b4, 3, none⟩)) (U32 p.dst) (rd1 (.pointer (some ⟨b4, 2, none⟩)) (U32 p.src) (rd1 (.pointer (some ⟨b4, 4, none⟩)) (I p.proto) G))))) w := fun {M} {w} {G} H h =>
    rd1_m H hg (o := 2) rfl (rd1_m H hb (o := 6) rfl (rd1_m H hb (o := 5) rfl (rd1_m H hb (o := 3) rfl (rd1_m H hb (o := 2) rfl (rd1_m H hb (o := 4) rfl h)))))
  have hAm : ∀ {M : List Chunk}, ∀ c ∈ ca, c ∈ M ++ (⟨gb, .t 95, [sr, I g.limit, I g.life, ka.val, sc, I g.clock]⟩ :: (ca ++ F)) := fun {M} c hc => List.mem_append_right _ (List.mem_cons_of_mem _ (List.mem_append_left _ hc))
  have hcon : ∀ {v : Value}, v = .agg ⟨[I p.proto, U32 p.src, U32 p.dst, I p.fr, I p.to, I (now + g.life)]⟩ → v.cells = ⟨cSt.enc (p.con, now + g.life)⟩ := by rintro v rfl; rfl
  have fin : ∀ (w : World) (M : List Chunk) (k5 : Sh) (c5 : List Chunk), TS cSt 87 k5.val (g.all ++ [(p.con, now + g.life)]) c5 → Hp w0 w ((c5 ++ M) ++ (⟨gb, .t 95, [sr, I g.limit, I g.life, ka.val, sc, I g.clock]⟩ :: (ca ++ F))) →
      st1 (.pointer (some ⟨gb, 3, none⟩)) k5.val (fun v35 => F31_j7 Q (ptr gb 0) (I k)) w := by
    intro w M k5 c5 h5 H
    refine st_m (o := 3) H (Upd.app Upd.here) (by simp) rfl fun w H => ?_
    simp only [List.set_cons_zero, List.set_cons_succ] at H
    refine kk w k5.val c5 h5 (H.to fun q => ?_)
    simp only [GS.mem, List.map_append, List.map_cons, List.sum_append, List.sum_cons]; omega
  refine ⟨?_, ?_⟩
  · refine lit0_t (C := cSt) elGSt H fun w s1 H h1 => ?_
    refine r6 H ?_
    refine r1 H ?_
    refine ⟨?_, ?_⟩
    · (try simp only [W0])
      refine append_t (C := cSt) (F := [] ++ (⟨gb, .t 95, [sr, I g.limit, I g.life, ka.val, sc, I g.clock]⟩ :: (ca ++ F))) elGSt H h1 Split.nil ha.tr hAm (by simp; omega) (by simp; omega) fun w s2 c2 H h2 => ?_
      replace H : Hp w0 w (c2 ++ (⟨gb, .t 95, [sr, I g.limit, I g.life, ka.val, sc, I g.clock]⟩ :: (ca ++ F))) := H
      refine r6 H ?_
      (try simp only [W0])
      refine lit1_t (C := cSt) (x := (p.con, now + g.life)) elGSt H rfl (by decide) fun w s3 c3 H h3 => ?_
      replace H : Hp w0 w ((c3 ++ c2) ++ (⟨gb, .t 95, [sr, I g.limit, I g.life, ka.val, sc, I g.clock]⟩ :: (ca ++ F))) := by simpa using H
      refine r1 H ?_
      (try simp only [W0])
      refine append_t (C := cSt) (cs := c2) (F := c3 ++ (⟨gb, .t 95, [sr, I g.limit, I g.life, ka.val, sc, I g.clock]⟩ :: (ca ++ F))) elGSt (by simpa using H) h2 Split.here.app h3.tr (fun c hc => List.mem_append_left _ hc) (by simp; omega) (by simp; omega) fun w s4 c4 H h4 => ?_
      obtain ⟨k5, rfl⟩ := h4.sh
      (try simp only [W0])
      exact fin w c3 k5 c4 (by simpa using h4) (by simpa using H)
    · (try simp only [allW, W0])
      refine lit1_t (C := cSt) (x := (p.con, now + g.life)) elGSt H rfl (by decide) fun w s3 c3 H h3 => ?_
      refine r1 H ?_
      (try simp only [W0])
      refine append_t (C := cSt) (F := c3 ++ (⟨gb, .t 95, [sr, I g.limit, I g.life, ka.val, sc, I g.clock]⟩ :: (ca ++ F))) elGSt H h1 Split.nil ha.tr hAm (by simp; omega) (by simp; omega) fun w s2 c2 H h2 => ?_
      replace H : Hp w0 w ((c2 ++ c3) ++ (⟨gb, .t 95, [sr, I g.limit, I g.life, ka.val, sc, I g.clock]⟩ :: (ca ++ F))) := by simpa using H
      refine r6 H ?_
      (try simp only [W0])
      refine append_t (C := cSt) (cs := c2) (F := c3 ++ (⟨gb, .t 95, [sr, I g.limit, I g.life, ka.val, sc, I g.clock]⟩ :: (ca ++ F))) elGSt (by simpa using H) h2 Split.here h3.tr (fun c hc => List.mem_append_right _ (List.mem_append_left _ hc)) (by simp; omega) (by simp; omega) fun w s4 c4 H h4 => ?_
      obtain ⟨k5, rfl⟩ := h4.sh
      (try simp only [W0])
      exact fin w c3 k5 c4 (by simpa using h4) (by simpa using H)
  · (try simp only [allW, W0])
    refine lit1_t (C := cSt) (x := (p.con, now + g.life)) elGSt H rfl (by decide) fun w s3 c3 H h3 => ?_
    replace H : Hp w0 w (c3 ++ (⟨gb, .t 95, [sr, I g.limit, I g.life, ka.val, sc, I g.clock]⟩ :: (ca ++ F))) := H
    refine r1 H ?_
    (try simp only [W0])
    refine lit0_t (C := cSt) elGSt H fun w s1 H h1 => ?_
    refine r6 H ?_
    refine r1 H ?_
    (try simp only [W0])
    refine append_t (C := cSt) (F := c3 ++ (⟨gb, .t 95, [sr, I g.limit, I g.life, ka.val, sc, I g.clock]⟩ :: (ca ++ F))) elGSt H h1 Split.nil ha.tr hAm (by simp; omega) (by simp; omega) fun w s2 c2 H h2 => ?_
    replace H : Hp w0 w ((c2 ++ c3) ++ (⟨gb, .t 95, [sr, I g.limit, I g.life, ka.val, sc, I g.clock]⟩ :: (ca ++ F))) := by simpa using H
    refine r6 H ?_
    (try simp only [W0])
    refine append_t (C := cSt) (cs := c2) (F := c3 ++ (⟨gb, .t 95, [sr, I g.limit, I g.life, ka.val, sc, I g.clock]⟩ :: (ca ++ F))) elGSt (by simpa using H) h2 Split.here h3.tr (fun c hc => List.mem_append_right _ (List.mem_append_left _ hc)) (by simp; omega) (by simp; omega) fun w s4 c4 H h4 => ?_
    obtain ⟨k5, rfl⟩ := h4.sh
    (try simp only [W0])
    exact fin w c3 k5 c4 (by simpa using h4) (by simpa using H)
end
end Go.Proofs.Ytmmbepdghpjgeaa.Den
end

section
set_option linter.unusedVariables false
set_option linter.unusedSimpArgs false
set_option maxRecDepth 8000
set_option maxHeartbeats 1000000
namespace Go.Proofs.Ytmmbepdghpjgeaa.Den
open Go Go.RowKit
theorem oldR_drop {l : List (Con × Int)} {i old : Nat} {x : Int} {s : Con × Int} (h : l[i]? = some s) : oldR (l.drop i) i old x = if s.2 < x then oldR (l.drop (i + 1)) (i + 1) i s.2 else oldR (l.drop (i + 1)) (i + 1) old x := by
  obtain ⟨h1, h2⟩ := List.getElem?_eq_some_iff.1 h
  rw [List.drop_eq_getElem_cons h1, h2]; rfl
section
variable {w w' w0 : World} {L L' F cs cs2 A X Y cc cr ca : List Chunk} {s s2 sr sc sa : Value} {K : VK} {R : ER} {b i j gb n b4 : Nat} {g : GS} {p : Pkt} {now : Int}
/-- Room for a new state. -/
theorem groom_walk {Q : ER} {k : Int} (hi : g.Inv n) (hp : 0 ≤ now ∧ now ≤ 1099511627776) (hsr : scalar sr = true) (hsc : scalar sc = true) (ha : TS cSt 87 sa g.all ca) (hb4 : Has F b4 (.t 67) p.enc) (H : Hp w0 w (g.mem gb sr sa sc (ca ++ F)))
    (kk : ∀ w' sa' ca', TS cSt 87 sa' (g.make p.con (now + g.life)).all ca' → Hp w0 w' ((g.make p.con (now + g.life)).mem gb sr sa' sc (ca' ++ F)) → F31_j7 Q (ptr gb 0) (I k) w') :
    F31_j10 Q (ptr gb 0) (I now) (ptr b4 0) (I k) w := by
  have hsa : scalar sa = true := ha.sc
  have hal := hi.al
  have hlim := hi.lim
  unfold F31_j10 F31_j12
  have H0 := H
  unfold GS.mem at H
  refine drew_k H fun w H => ?_
  (try simp only [W0])
  refine ld_m H Has.here (o := 3) (v := sa) rfl ?_
  refine pv_of (lenS_ts ha) ?_
  (try simp only [W0])
  refine ld_m H Has.here (o := 1) (v := I g.limit) rfl ?_
  refine eql_k (fun h => ?_) (fun h => ?_)
  · unfold F31_j13
    (try simp only [W0])
    unfold F31_j14 F31_j16 F31_j17
    have hne : g.all ≠ [] := by rintro e; rw [e] at h; simp at h; omega
    obtain ⟨s0, l0, hs0⟩ : ∃ s0 l0, g.all = s0 :: l0 := by
      cases hg : g.all with
      | nil => exact absurd hg hne
      | cons a l => exact ⟨a, l, rfl⟩
    have holdE : oldI g.all = oldR (g.all.drop 1) 1 0 s0.2 := by rw [hs0]; rfl
    refine loop6 (F31_l1_succ _) (fun m y0 y2 y4 y12 y14 y15 w => ∃ (i old : Nat) (x : Con × Int), y0 = ptr gb 0 ∧ y2 = I now ∧ y4 = ptr b4 0 ∧ y12 = I k ∧ y14 = I (old : Int) ∧ y15 = I (i : Int) ∧ m + i = g.all.length ∧ g.all[old]? = some x ∧ oldI g.all = oldR (g.all.drop i) i old x.2 ∧
      Hp w0 w (g.mem gb sr sa sc (ca ++ F))) ?_ (m := g.all.length - 1) ⟨1, 0, s0, rfl, rfl, rfl, rfl, rfl, rfl, by rw [hs0]; simp, by rw [hs0]; rfl, holdE, H⟩
    clear H H0
    rintro m kq _ _ _ _ _ _ w ⟨i, old, x, rfl, rfl, rfl, rfl, rfl, rfl, hm, hx, ho, H⟩ hk
    unfold F31_b1
    have H0 := H
    unfold GS.mem at H
    (try simp only [W0])
    refine ld_m H Has.here (o := 3) (v := sa) rfl ?_
    refine pv_of (lenS_ts ha) ?_
    refine lss_k (fun hi2 => ?_) (fun hi2 => ?_)
    · (try simp only [W0])
      have hy : g.all[i]? = some g.all[i] := List.getElem?_eq_getElem (by omega)
      generalize g.all[i] = y at hy
      unfold F31_j18 F31_j20
      refine drew_k H fun w H => ?_
      (try simp only [W0])
      refine ld_m H Has.here (o := 3) (v := sa) rfl ?_
      refine ixF_t (C := cSt) (f := 5) (v := I y.2) ha.tr H (fun c hc => List.mem_cons_of_mem _ (List.mem_append_left _ hc)) hy rfl ?_
      (try simp only [W0])
      refine ld_m H Has.here (o := 3) (v := sa) rfl ?_
      refine ixF_t (C := cSt) (f := 5) (v := I x.2) ha.tr H (fun c hc => List.mem_cons_of_mem _ (List.mem_append_left _ hc)) hx rfl ?_
      rw [oldR_drop hy] at ho
      refine lss_k (fun h1 => ?_) (fun h1 => ?_)
      · (try simp only [W0])
        rw [if_pos h1] at ho
        unfold F31_j19
        refine add_k (z := ((i + 1 : Nat) : Int)) (by omega) (by omega) (by omega) ?_
        exact hk (m - 1) _ _ _ _ _ _ _ (by omega) ⟨i + 1, i, y, rfl, rfl, rfl, rfl, rfl, rfl, by omega, hy, ho, H⟩
      · (try simp only [W0])
        rw [if_neg h1] at ho
        unfold F31_j19
        refine add_k (z := ((i + 1 : Nat) : Int)) (by omega) (by omega) (by omega) ?_
        exact hk (m - 1) _ _ _ _ _ _ _ (by omega) ⟨i + 1, old, x, rfl, rfl, rfl, rfl, rfl, rfl, by omega, hx, ho, H⟩
    · (try simp only [W0])
      rw [List.drop_of_length_le (by omega)] at ho
      have hold : oldI g.all = old := ho
      have hol := oldI_lt hne
      rw [hold] at hol
      unfold F31_j15
      refine cal_h (remove_spec (i := old) ha hol (by omega) hsr hsc H0) ?_
      rintro _ w ⟨sa', ca', rfl, ha', H⟩
      (try simp only [W0])
      have hmk : g.make p.con (now + g.life) = { ({ g with all := g.all.eraseIdx old } : GS) with all := g.all.eraseIdx old ++ [(p.con, now + g.life)] } := by
        unfold GS.make; simp only; rw [if_pos h, hold]
      have hi2 : ({ g with all := g.all.eraseIdx old } : GS).Inv n := ⟨hi.l1, hi.l2, hi.cl, hi.cb, hi.rok, hi.rl, by show (g.all.eraseIdx old).length ≤ 100; have := List.length_eraseIdx_le g.all old; omega, hi.lim⟩
      refine gappend_walk (g := { g with all := g.all.eraseIdx old }) hi2 hi2.al hp hsr hsc ha' hb4 H fun w' sa' ca' h1 h2 => ?_
      exact kk w' sa' ca' (by rw [hmk]; exact h1) (by rw [hmk]; exact h2)
  · unfold F31_j13
    (try simp only [W0])
    have hmk : g.make p.con (now + g.life) = { g with all := g.all ++ [(p.con, now + g.life)] } := by
      unfold GS.make; simp only; rw [if_neg h]
    refine gappend_walk hi hal hp hsr hsc ha hb4 H fun w' sa' ca' h1 h2 => ?_
    exact kk w' sa' ca' (by rw [hmk]; exact h1) (by rw [hmk]; exact h2)
theorem grule_walk {Q : ER} (hi : g.Inv n) (hn : n < 2 ^ 60) (hp : p.Ok) (hpc : p.check = 0) (hnow : 0 ≤ now ∧ now ≤ 1099511627776) (hr : TR cRul w0 cr sr g.rules) (hm : ∀ c ∈ cr, c ∈ F) (hb4 : Has F b4 (.t 67) p.enc) (hc : TS cI 2 sc g.counts cc) (ha : TS cSt 87 sa g.all ca)
    (H : Hp w0 w (g.mem gb sr sa sc (ca ++ (cc ++ F))))
    (kk : ∀ w' sa' ca' cc', TS cSt 87 sa' (g.rule p now).2.all ca' → TS cI 2 sc (g.rule p now).2.counts cc' → Hp w0 w' ((g.rule p now).2.mem gb sr sa' sc (ca' ++ (cc' ++ F))) → Q (.returned (.tuple ⟨[I (g.rule p now).1.1, I (g.rule p now).1.2.1, I (g.rule p now).1.2.2]⟩)) w') :
    F31_j5 Q (ptr gb 0) (I now) (ptr b4 0) w := by
  have hsr : scalar sr = true := hr.sc
  have hsc : scalar sc = true := hc.sc
  have hsa : scalar sa = true := ha.sc
  have hb : ∀ {x : Chunk} {A B : List Chunk}, Has (x :: (A ++ (B ++ F))) b4 (.t 67) p.enc := fun {x A B} => Has.cons (Has.app (Has.app hb4))
  have hmm : ∀ {x : Chunk} {A B : List Chunk}, ∀ c ∈ cr, c ∈ x :: (A ++ (B ++ F)) := fun {x A B} c hc => List.mem_cons_of_mem _ (List.mem_append_right _ (List.mem_append_right _ (hm c hc)))
  unfold F31_j5
  unfold GS.mem at H
  refine drew_k H fun w H => ?_
  (try simp only [W0])
  refine ld_m H Has.here (o := 0) (v := sr) rfl ?_
  refine ldA_m (l := p.enc) H hb rfl ?_
  (try simp only [W0])
  refine cal_h (gdecide_spec hr hi.rok hp hpc (by have := hi.rl; omega) H hmm) ?_
  rintro _ w ⟨rfl, H⟩
  (try simp only [W0])
  refine lss_k (fun h0 => ?_) (fun h0 => ?_)
  · have e : g.rule p now = ((1, -2, 0), g) := by unfold GS.rule; simp only; rw [if_pos h0]
    rw [e] at kk
    (try simp only [W0])
    exact kk w sa ca cc ha hc H
  · (try simp only [W0])
    rcases deciding_lt (l := g.rules) (p := p) with h1 | ⟨h1, h2, r, hx, hfit⟩
    · omega
    obtain ⟨i, hi'⟩ : ∃ i : Nat, deciding g.rules p = (i : Int) := ⟨(deciding g.rules p).toNat, by omega⟩
    have e : g.rule p now = ((r.act, (i : Int), 0), if r.keep && p.start then (g.count i).make p.con (now + g.life) else g.count i) := by
      unfold GS.rule; simp only; rw [if_neg h0, hx]; simp only [hi', Int.toNat_natCast]
    rw [hi'] at hx h2 ⊢
    rw [Int.toNat_natCast] at hx
    rw [e] at kk
    simp only at kk
    have hcl := hi.cl
    have hcx : g.counts[i]? = some (g.counts.getD i 0) := by
      rw [List.getD_eq_getElem?_getD, List.getElem?_eq_getElem (by omega)]; rfl
    have hcb := hi.cb _ (List.mem_of_getElem? hcx)
    unfold F31_j6
    (try simp only [W0])
    refine ld_m H Has.here (o := 4) (v := sc) rfl ?_
    refine ix1_t (C := cI) hc.tr H (fun c hc => List.mem_cons_of_mem _ (List.mem_append_right _ (List.mem_append_left _ hc))) hcx rfl rfl ?_
    refine add_k (by omega) (by omega) rfl ?_
    refine ist1_t (C := cI) (x := g.counts.getD i 0 + 1) hc H (F := ⟨gb, .t 95, [sr, I g.limit, I g.life, sa, sc, I g.clock]⟩ :: (ca ++ F)) (Split.cons (Split.app Split.here)) (by omega) rfl rfl fun w cc' H hc' => ?_
    have H2 : Hp w0 w ((g.count i).mem gb sr sa sc (ca ++ (cc' ++ F))) := H.to fun q => by simp only [GS.mem, GS.count, List.map_append, List.map_cons, List.sum_append, List.sum_cons]; omega
    clear H
    have hi2 : (g.count i).Inv (n + 1) := ⟨hi.l1, hi.l2, by show (g.counts.set i _).length = _; rw [List.length_set]; exact hi.cl, by
      intro c hc
      rcases List.mem_or_eq_of_mem_set hc with h | h
      · have := hi.cb c h; omega
      · subst h; omega, hi.rok, hi.rl, hi.al, hi.lim⟩
    have H := H2
    unfold GS.mem at H
    unfold F31_j8
    (try simp only [W0])
    refine ld_m H Has.here (o := 0) (v := sr) rfl ?_
    refine ixN_t (C := cRul) hr H hmm hx (by decide) ?_
    refine al_m (ys := rul0.enc) H (by kernel_rfl) fun w b6 H => ?_
    refine stA_m (vs := r.enc) H Upd.here (by exact r.enc_len) rfl (by exact r.enc_sc) fun w H => ?_
    (try simp only [W0])
    refine ld_m H Has.here (o := 2) (v := .bool r.keep) rfl ?_
    have fin : ∀ (w : World) (g' : GS) (sa' : Value) (ca' : List Chunk), g' = (if r.keep && p.start then (g.count i).make p.con (now + g.life) else g.count i) → g'.counts = g.counts.set i (g.counts.getD i 0 + 1) → TS cSt 87 sa' g'.all ca' →
        Hp w0 w (g'.mem gb sr sa' sc (ca' ++ (cc' ++ F))) → F31_j7 Q (ptr gb 0) (I (i : Int)) w := by
      intro w g' sa' ca' hg' hct hA H
      have H9 := H
      unfold GS.mem at H
      unfold F31_j7
      (try simp only [W0])
      refine ld_m H Has.here (o := 0) (v := sr) rfl ?_
      refine ixF_t (C := cRul) (f := 0) hr H hmm hx rfl ?_
      (try simp only [W0])
      rw [← hg'] at kk
      exact kk w sa' ca' cc' hA (by rw [hct]; exact hc') H9
    have no : (r.keep && p.start) = false → F31_j9 Q (ptr gb 0) (I now) (ptr b4 0) (I (i : Int)) (.bool false) w := by
      intro hk
      unfold F31_j9
      (try simp only [W0])
      exact fin w (g.count i) sa ca (by rw [hk]; rfl) rfl ha H.tail
    cases hk : r.keep with
    | false =>
      (try simp only [W0])
      exact no (by rw [hk]; rfl)
    | true =>
      (try simp only [W0])
      refine ld_m H (Has.cons hb) (o := 7) (v := .bool p.start) rfl ?_
      (try simp only [W0])
      cases hs : p.start with
      | false => exact no (by rw [hs]; simp)
      | true =>
        unfold F31_j9
        (try simp only [W0])
        have hmkc : ((g.count i).make p.con (now + g.life)).counts = g.counts.set i (g.counts.getD i 0 + 1) := by
          unfold GS.make; simp only; split <;> rfl
        have H3 : Hp w0 w ((g.count i).mem gb sr sa sc (ca ++ (cc' ++ F))) := H.tail
        refine groom_walk (g := g.count i) (n := n + 1) hi2 hnow hsr hsc ha (Has.app hb4) H3 fun w' sa' ca' h1 h2 => ?_
        exact fin w' _ sa' ca' (by rw [hk, hs]; rfl) hmkc h1 h2
theorem gFdecide_spec (hi : g.Inv n) (hn : n < 2 ^ 60) (hp : p.Ok) (hr : TR cRul w0 cr sr g.rules) (hm : ∀ c ∈ cr, c ∈ F) (hc : TS cI 2 sc g.counts cc) (ha : TS cSt 87 sa g.all ca) (H : Hp w0 w (g.mem gb sr sa sc (ca ++ (cc ++ F)))) :
    Calls Pg 31 ⟨[ptr gb 0, .agg ⟨p.enc⟩, I now]⟩ w fun e w' => ∃ sa' ca' cc', e = .returned (.tuple ⟨[I (g.decide p now).1.1, I (g.decide p now).1.2.1, I (g.decide p now).1.2.2]⟩) ∧ TS cSt 87 sa' (g.decide p now).2.all ca' ∧ TS cI 2 sc (g.decide p now).2.counts cc' ∧ Hp w0 w' ((g.decide p now).2.mem gb sr sa' sc (ca' ++ (cc' ++ F))) := by
  have hsr : scalar sr = true := hr.sc
  have hsc : scalar sc = true := hc.sc
  generalize hQ : (fun (e : Ending) (w' : World) => ∃ sa' ca' cc', e = .returned (.tuple ⟨[I (g.decide p now).1.1, I (g.decide p now).1.2.1, I (g.decide p now).1.2.2]⟩) ∧ TS cSt 87 sa' (g.decide p now).2.all ca' ∧ TS cI 2 sc (g.decide p now).2.counts cc' ∧ Hp w0 w' ((g.decide p now).2.mem gb sr sa' sc (ca' ++ (cc' ++ F))) : ER) = Q
  have fin : ∀ (a i e : Int) (g' : GS) (w' : World) (sa' : Value) (ca' cc' : List Chunk) (b4 : Nat), g.decide p now = ((a, i, e), g') → TS cSt 87 sa' g'.all ca' → TS cI 2 sc g'.counts cc' → Hp w0 w' (g'.mem gb sr sa' sc (ca' ++ (cc' ++ (⟨b4, .t 67, p.enc⟩ :: F)))) → Q (.returned (.tuple ⟨[I a, I i, I e]⟩)) w' := by
    intro a i e g' w' sa' ca' cc' b4 h1 h2 h3 h4
    subst hQ
    rw [h1]
    refine ⟨sa', ca', cc', rfl, h2, h3, h4.to fun q => ?_⟩
    simp only [GS.mem, List.map_append, List.map_cons, List.sum_append, List.sum_cons]; omega
  apply F31_calls
  unfold F31
  refine bx_m H fun w b4 H => ?_
  replace H : Hp w0 w (g.mem gb sr sa sc (ca ++ (cc ++ (⟨b4, .t 67, p.enc⟩ :: F)))) := H.to fun q => by simp only [GS.mem, List.map_append, List.map_cons, List.sum_append, List.sum_cons]; omega
  have hb : ∀ {x : Chunk} {A B : List Chunk}, Has (x :: (A ++ (B ++ (⟨b4, .t 67, p.enc⟩ :: F)))) b4 (.t 67) p.enc := fun {x A B} => Has.cons (Has.app (Has.app Has.here))
  (try simp only [W0])
  refine ldA_m (l := p.enc) H hb rfl ?_
  refine cal_h (gpcheck_spec H) ?_
  rintro _ w ⟨rfl, H⟩
  (try simp only [W0])
  refine neq_k (fun h1 => ?_) (fun h1 => ?_)
  · (try simp only [W0])
    exact fin _ _ _ g w sa ca cc b4 (by unfold GS.decide; rw [if_pos h1]) ha hc H
  · (try simp only [W0])
    unfold F31_j1
    have h1' : p.check = 0 := by simpa using h1
    have bad : (now < 0 ∨ 1099511627776 < now) → Q (.returned (.tuple ⟨[I 0, I 0, I 34]⟩)) w := fun h => fin _ _ _ g w sa ca cc b4 (by unfold GS.decide; rw [if_neg (by simp [h1']), if_pos h]) ha hc H
    refine lss_k (fun h2 => ?_) (fun h2 => ?_)
    · (try simp only [W0])
      exact bad (.inl h2)
    · (try simp only [W0])
      refine gtr_k (fun h3 => ?_) (fun h3 => ?_)
      · (try simp only [W0])
        exact bad (.inr h3)
      · (try simp only [W0])
        unfold F31_j2
        have H9 := H
        unfold GS.mem at H
        (try simp only [W0])
        refine ld_m H Has.here (o := 5) (v := I g.clock) rfl ?_
        refine lss_k (fun h4 => ?_) (fun h4 => ?_)
        · (try simp only [W0])
          exact fin _ _ _ g w sa ca cc b4 (by unfold GS.decide; rw [if_neg (by simp [h1']), if_neg (by omega), if_pos h4]) ha hc H
        · (try simp only [W0])
          unfold F31_j3
          (try simp only [W0])
          refine st_m (o := 5) H Upd.here (by simp) rfl fun w H => ?_
          simp only [List.set_cons_zero, List.set_cons_succ] at H
          have e0 : g.decide p now = match (g.expire now).all.findIdx? (fun s => bel p s.1) with
              | some i => ((1, -1, 0), { g.expire now with all := (g.expire now).all.modify i fun s => (s.1, now + g.life) })
              | none => (g.expire now).rule p now := by
            conv => lhs; unfold GS.decide
            rw [if_neg (by simp [h1']), if_neg (by omega), if_neg h4]
            first | done | rfl
          have hal : (g.expire now).all.length ≤ g.all.length := List.length_filter_le _ _
          have hi2 : (g.expire now).Inv n := ⟨hi.l1, hi.l2, hi.cl, hi.cb, hi.rok, hi.rl, by have := hi.al; omega, hi.lim⟩
          refine gexpire_walk (g := { g with clock := now }) (by have := hi.al; show g.all.length ≤ 1000; omega) hsr hsc rfl ha H fun w sa ca ha H => ?_
          have hexp : ({ g with clock := now } : GS).expire now = g.expire now := rfl
          rw [hexp] at ha H
          have hrE : (g.expire now).rules = g.rules := rfl
          have hcE : (g.expire now).counts = g.counts := rfl
          have hlE : (g.expire now).life = g.life := rfl
          generalize g.expire now = g1 at *
          have hal1 := hi2.al
          unfold F31_j4 F31_j21 F31_j22
          refine loop4 (F31_l2_succ _) (fun m y0 y2 y4 y11 w => ∃ i : Nat, y0 = ptr gb 0 ∧ y2 = I now ∧ y4 = ptr b4 0 ∧ y11 = I (i : Int) ∧ m + i = g1.all.length ∧ (∀ t s, t < i → g1.all[t]? = some s → bel p s.1 = false) ∧ Hp w0 w (g1.mem gb sr sa sc (ca ++ (cc ++ (⟨b4, .t 67, p.enc⟩ :: F))))) ?_ (m := g1.all.length) ⟨0, rfl, rfl, rfl, rfl, rfl, fun _ _ h => absurd h (Nat.not_lt_zero _), H⟩
          clear H H9 hal
          rintro m k _ _ _ _ w ⟨i, rfl, rfl, rfl, rfl, hm2, hno, H⟩ hk
          have hsa : scalar sa = true := ha.sc
          unfold F31_b2
          have H9 := H
          unfold GS.mem at H
          (try simp only [W0])
          refine ld_m H Has.here (o := 3) (v := sa) rfl ?_
          refine pv_of (lenS_ts ha) ?_
          refine lss_k (fun h5 => ?_) (fun h5 => ?_)
          · (try simp only [W0])
            have hx : g1.all[i]? = some g1.all[i] := List.getElem?_eq_getElem (by omega)
            generalize g1.all[i] = x at hx
            unfold F31_j23
            refine drew_k H fun w H => ?_
            refine ldA_m (l := p.enc) H hb rfl ?_
            (try simp only [W0])
            refine ld_m H Has.here (o := 3) (v := sa) rfl ?_
            refine ixN_t (C := cSt) ha.tr H (fun c hc => List.mem_cons_of_mem _ (List.mem_append_left _ hc)) hx (by decide) ?_
            (try simp only [W0])
            refine cal_h (belongs_spec (c := x) H) ?_
            rintro _ w ⟨rfl, H⟩
            (try simp only [W0])
            cases hbx : bel p x.1 with
            | true =>
              (try simp only [W0])
              refine lit0_t (C := cSt) elGSt H fun w s1 H h1 => ?_
              (try simp only [W0])
              refine ld_m H Has.here (o := 3) (v := sa) rfl ?_
              refine append_t (C := cSt) (F := ⟨gb, .t 95, [sr, I g1.limit, I g1.life, sa, sc, I g1.clock]⟩ :: (ca ++ (cc ++ (⟨b4, .t 67, p.enc⟩ :: F)))) elGSt H h1 Split.nil ha.tr (fun c hc => List.mem_cons_of_mem _ (List.mem_append_left _ hc)) (by simp; omega) (by simp; omega) fun w s2 c2 H h2 => ?_
              rw [List.nil_append] at h2
              have hs2 : scalar s2 = true := h2.sc
              (try simp only [W0])
              refine st_m (o := 3) H (Upd.app Upd.here) (by simp) hs2 fun w H => ?_
              simp only [List.set_cons_zero, List.set_cons_succ] at H
              refine drew_k H fun w H => ?_
              (try simp only [W0])
              refine ld_m H (Has.app Has.here) (o := 3) (v := s2) rfl ?_
              (try simp only [W0])
              refine ld_m H (Has.app Has.here) (o := 2) (v := I g1.life) rfl ?_
              refine add_k (by have := hi2.l1; omega) (by have := hi2.l2; omega) rfl ?_
              (try simp only [W0])
              refine istF_t (C := cSt) (f := 5) (x' := (x.1, now + g1.life)) h2 H Split.here hx (by decide) rfl rfl fun w c3 H h3 => ?_
              have hfi : g1.all.findIdx? (fun s => bel p s.1) = some i := by
                rw [List.findIdx?_eq_some_iff_getElem]
                obtain ⟨hil, hxe⟩ := List.getElem?_eq_some_iff.1 hx
                refine ⟨hil, by rw [hxe]; exact hbx, fun j hj => ?_⟩
                have := hno j g1.all[j] hj (List.getElem?_eq_getElem (by omega))
                simpa using this
              have hmod : g1.all.set i (x.1, now + g1.life) = g1.all.modify i fun s => (s.1, now + g1.life) := by
                apply List.ext_getElem?
                intro t
                rw [List.getElem?_set, List.getElem?_modify]
                by_cases ht : i = t
                · subst ht
                  rw [if_pos rfl, hx]
                  simp [(List.getElem?_eq_some_iff.1 hx).1]
                · rw [if_neg ht]; simp [ht]
              refine fin _ _ _ { g1 with all := g1.all.modify i fun s => (s.1, now + g1.life) } w s2 c3 cc b4 (by rw [e0, hfi, ← hlE]) (by show TS cSt _ s2 (g1.all.modify i _) c3; rw [← hmod]; exact h3) (by show TS cI _ sc g1.counts cc; rw [hcE]; exact hc) (H.to fun q => ?_)
              simp only [GS.mem, List.map_append, List.map_cons, List.sum_append, List.sum_cons]; omega
            | false =>
              (try simp only [W0])
              refine add_k (z := ((i + 1 : Nat) : Int)) (by omega) (by omega) (by omega) ?_
              refine hk (m - 1) _ _ _ _ _ (by omega) ⟨i + 1, rfl, rfl, rfl, rfl, by omega, ?_, H⟩
              intro t s ht hs
              rcases Nat.lt_or_ge t i with h | h
              · exact hno t s h hs
              · obtain rfl : t = i := by omega
                rw [hx] at hs; injection hs with hs; subst hs; exact hbx
          · (try simp only [W0])
            have hfi : g1.all.findIdx? (fun s => bel p s.1) = none := by
              rw [List.findIdx?_eq_none_iff]
              intro s hs
              obtain ⟨t, ht, rfl⟩ := List.getElem_of_mem hs
              exact hno t _ (by omega) (List.getElem?_eq_getElem ht)
            have e1 : g.decide p now = g1.rule p now := by rw [e0, hfi]
            refine grule_walk (g := g1) (F := ⟨b4, .t 67, p.enc⟩ :: F) hi2 hn hp h1' ⟨by omega, by omega⟩ (by rw [hrE]; exact hr) (fun c hc => List.mem_cons_of_mem _ (hm c hc)) Has.here (by rw [hcE]; exact hc) ha H fun w' sa' ca' cc' h1 h2 h3 => ?_
            exact fin _ _ _ (g1.rule p now).2 w' sa' ca' cc' b4 e1 h1 h2 h3
end
end Go.Proofs.Ytmmbepdghpjgeaa.Den
end

section
set_option linter.unusedVariables false
set_option linter.unusedSimpArgs false
set_option maxRecDepth 8000
set_option maxHeartbeats 1000000
namespace Go.Proofs.Ytmmbepdghpjgeaa.Den
open Go Go.RowKit
theorem eqSt (a b : Con × Int) : eqAgg [0, 0, 0, 0, 0, 0] (.agg ⟨cSt.enc a⟩) (.agg ⟨cSt.enc b⟩) = some (.bool (decide (a = b))) := by
  have : (a.1.1 == b.1.1 && (a.1.2.1 == b.1.2.1 && (a.1.2.2.1 == b.1.2.2.1 && (a.1.2.2.2.1 == b.1.2.2.2.1 && (a.1.2.2.2.2 == b.1.2.2.2.2 && (a.2 == b.2 && true)))))) = decide (a = b) := by
    obtain ⟨⟨a1, a2, a3, a4, a5⟩, a6⟩ := a
    obtain ⟨⟨b1, b2, b3, b4, b5⟩, b6⟩ := b
    rw [Bool.eq_iff_iff]; simp [and_assoc]
  rw [← this]
  simp [eqAgg, eqCells, eqLeaf, cSt]
section
variable {w w' w0 : World} {L L' F cs cs2 A X Y cc cr ca : List Chunk} {s s2 sr sc sa : Value} {K : VK} {R : ER} {b i j gb fb mb n b4 : Nat} {f : FS} {g : GS} {p : Pkt} {now : Int}
theorem drop_spec {c : Con} {x : Int} (H : Hp w0 w (f.mem fb mb sr sc F)) : Calls Pg 28 ⟨[ptr fb 0, .agg ⟨cSt.enc (c, x)⟩]⟩ w fun e w' => e = .returned (.bool (mget c f.ents).isSome) ∧ Hp w0 w' (({ f with ents := mdel c f.ents } : FS).mem fb mb sr sc F) := by
  apply F28_calls
  unfold F28
  refine bx_m (vs := cSt.enc (c, x)) H fun w b1 H => ?_
  (try simp only [W0])
  unfold F28_j1
  unfold FS.mem at H
  (try simp only [W0])
  refine ld_m H Has.here (o := 0) (v := I c.1) rfl ?_
  (try simp only [W0])
  refine ld_m H Has.here (o := 1) (v := U32 c.2.1) rfl ?_
  (try simp only [W0])
  refine ld_m H Has.here (o := 2) (v := U32 c.2.2.1) rfl ?_
  (try simp only [W0])
  refine ld_m H Has.here (o := 3) (v := I c.2.2.2.1) rfl ?_
  (try simp only [W0])
  refine ld_m H Has.here (o := 4) (v := I c.2.2.2.2) rfl ?_
  refine bld_a ?_
  refine al_m (ys := [I 0, U32 0, U32 0, I 0, I 0]) H (by kernel_rfl) fun w b5 H => ?_
  refine stA_m (vs := Con.enc c) H Upd.here rfl rfl (Con.enc_sc _) fun w H => ?_
  refine drew_k H fun w H => ?_
  have fin : ∀ (w : World) (b6 : Nat) (l6 : List Value), Hp w0 w (⟨b6, .t 121, l6⟩ :: ⟨b5, .t 119, Con.enc c⟩ :: ⟨b1, .t 84, cSt.enc (c, x)⟩ :: ⟨fb, .t 117, [sr, sc, I f.limit, I f.life, .map (some mb), I f.made, I f.clock]⟩ :: ⟨mb, .o (mobj kC vE f.ents f.mck), []⟩ :: F) →
      F28_j2 (fun e w' => e = .returned (.bool (mget c f.ents).isSome) ∧ Hp w0 w' (({ f with ents := mdel c f.ents } : FS).mem fb mb sr sc F)) (ptr fb 0) (ptr b5 0) (.bool (mget c f.ents).isSome) w := by
    intro w b6 l6 H
    unfold F28_j2
    refine drew_k H fun w H => ?_
    (try simp only [W0])
    refine ld_m H (Has.cons (Has.cons (Has.cons Has.here))) (o := 4) (v := .map (some mb)) rfl ?_
    refine ldA_m (l := Con.enc c) H (Has.cons Has.here) rfl ?_
    (try simp only [W0])
    refine delete_h mapC c (ents := f.ents) (clock := f.mck) H (Upd.cons (Upd.cons (Upd.cons (Upd.cons Upd.here)))) fun w H => ?_
    exact ⟨(by first | rfl | trivial), H.tail.tail.tail⟩
  (try simp only [W0])
  refine ld_m H (Has.cons (Has.cons Has.here)) (o := 4) (v := .map (some mb)) rfl ?_
  refine ldA_m (l := Con.enc c) H Has.here rfl ?_
  refine ⟨?_, ?_⟩
  · (try simp only [W0])
    refine lookup2_h mapC c (ents := f.ents) (clock := f.mck) H (Has.cons (Has.cons (Has.cons Has.here))) ?_
    (try simp only [W0])
    refine al_m (ys := [I 0, I 0]) H (by kernel_rfl) fun w b6 H => ?_
    refine rdA_m H (Has.cons Has.here) rfl ?_
    refine rd1_m H (Has.cons (Has.cons (Has.cons Has.here))) (o := 4) rfl ?_
    unfold lkv vE
    (try simp only [W0])
    refine stA_m H Upd.here rfl rfl (by intro z hz; simp only [List.mem_cons, List.not_mem_nil, or_false] at hz; rcases hz with rfl | rfl <;> rfl) fun w H => ?_
    exact fin w b6 _ H
  · (try simp only [allW, W0])
    refine al_m (ys := [I 0, I 0]) H (by kernel_rfl) fun w b6 H => ?_
    refine rdA_m H (Has.cons Has.here) rfl ?_
    refine rd1_m H (Has.cons (Has.cons (Has.cons Has.here))) (o := 4) rfl ?_
    (try simp only [W0])
    refine lookup2_h mapC c (ents := f.ents) (clock := f.mck) H (Has.cons (Has.cons (Has.cons (Has.cons Has.here)))) ?_
    unfold lkv vE
    (try simp only [W0])
    refine stA_m H Upd.here rfl rfl (by intro z hz; simp only [List.mem_cons, List.not_mem_nil, or_false] at hz; rcases hz with rfl | rfl <;> rfl) fun w H => ?_
    exact fin w b6 _ H
def GS.dropR (g : GS) (c : Con) : Bool × GS := match g.all.findIdx? (fun s => Decidable.decide (s.1 = c)) with
  | some i => (true, { g with all := g.all.eraseIdx i })
  | none => (false, g)
theorem gdrop_spec {c : Con} {x : Int} (hl : g.all.length ≤ 1000) (hsr : scalar sr = true) (hsc : scalar sc = true) (ha : TS cSt 87 sa g.all ca) (H : Hp w0 w (g.mem gb sr sa sc (ca ++ F))) :
    Calls Pg 29 ⟨[ptr gb 0, .agg ⟨cSt.enc (c, x)⟩]⟩ w fun e w' => ∃ sa' ca', e = .returned (.bool (g.dropR c).1) ∧ TS cSt 87 sa' (g.dropR c).2.all ca' ∧ Hp w0 w' ((g.dropR c).2.mem gb sr sa' sc (ca' ++ F)) := by
  generalize hQ : (fun (e : Ending) (w' : World) => ∃ sa' ca', e = .returned (.bool (g.dropR c).1) ∧ TS cSt 87 sa' (g.dropR c).2.all ca' ∧ Hp w0 w' ((g.dropR c).2.mem gb sr sa' sc (ca' ++ F)) : ER) = Q
  have hsa : scalar sa = true := ha.sc
  apply F29_calls
  unfold F29
  refine bx_m (vs := cSt.enc (c, x)) H fun w b3 H => ?_
  replace H : Hp w0 w (g.mem gb sr sa sc (ca ++ (⟨b3, .t 87, cSt.enc (c, x)⟩ :: F))) := H.to fun q => by simp only [GS.mem, List.map_append, List.map_cons, List.sum_append, List.sum_cons]; omega
  unfold F29_j2 F29_j3
  refine loop3 (F29_l1_succ _) (fun m y0 y3 y5 w => ∃ i : Nat, y0 = ptr gb 0 ∧ y3 = ptr b3 0 ∧ y5 = I (i : Int) ∧ m + i = g.all.length ∧ (∀ t s, t < i → g.all[t]? = some s → s.1 ≠ c) ∧ Hp w0 w (g.mem gb sr sa sc (ca ++ (⟨b3, .t 87, cSt.enc (c, x)⟩ :: F)))) ?_ (m := g.all.length) ⟨0, rfl, rfl, rfl, rfl, fun _ _ h => absurd h (Nat.not_lt_zero _), H⟩
  clear H
  rintro m k _ _ _ w ⟨i, rfl, rfl, rfl, hm, hno, H⟩ hk
  unfold F29_b1
  have H0 := H
  unfold GS.mem at H
  (try simp only [W0])
  refine ld_m H Has.here (o := 3) (v := sa) rfl ?_
  refine pv_of (lenS_ts ha) ?_
  refine lss_k (fun hi => ?_) (fun hi => ?_)
  · (try simp only [W0])
    have hx : g.all[i]? = some g.all[i] := List.getElem?_eq_getElem (by omega)
    generalize g.all[i] = y at hx
    unfold F29_j4
    (try simp only [W0])
    refine ld_m H Has.here (o := 3) (v := sa) rfl ?_
    refine ixN_t (C := cSt) ha.tr H (fun c hc => List.mem_cons_of_mem _ (List.mem_append_left _ hc)) hx (by decide) ?_
    refine al_m (ys := cSt.enc ((0, 0, 0, 0, 0), 0)) H (by kernel_rfl) fun w b6 H => ?_
    refine stA_m (vs := cSt.enc y) H Upd.here rfl rfl (cSt.sc y) fun w H => ?_
    (try simp only [W0])
    refine ld_m (b := b3) (t := 87) (l := cSt.enc (c, x)) H (by unfold Has; simp) (o := 5) (v := I x) rfl ?_
    (try simp only [W0])
    refine st_m (o := 5) H Upd.here (by simp [cSt]) rfl fun w H => ?_
    replace H : Hp w0 w (⟨b6, .t 87, cSt.enc (y.1, x)⟩ :: g.mem gb sr sa sc (ca ++ (⟨b3, .t 87, cSt.enc (c, x)⟩ :: F))) := H
    refine ldA_m (l := cSt.enc (y.1, x)) H Has.here rfl ?_
    refine ldA_m (b := b3) (t := 87) (l := cSt.enc (c, x)) H (by unfold Has GS.mem; simp) rfl ?_
    refine pv_of (eqSt _ _) ?_
    have hdec : decide ((y.1, x) = (c, x)) = decide (y.1 = c) := by simp
    rw [hdec]
    by_cases hy : y.1 = c
    · rw [decide_eq_true hy]
      (try simp only [W0])
      have hil := (List.getElem?_eq_some_iff.1 hx).1
      refine cal_h (remove_spec (i := i) ha hil hl hsr hsc H.tail) ?_
      rintro _ w ⟨sa', ca', rfl, ha', H⟩
      (try simp only [W0])
      have hfi : g.all.findIdx? (fun s => decide (s.1 = c)) = some i := by
        rw [List.findIdx?_eq_some_iff_getElem]
        obtain ⟨hil, hxe⟩ := List.getElem?_eq_some_iff.1 hx
        refine ⟨hil, by rw [hxe, decide_eq_true hy], fun j hj => ?_⟩
        have := hno j g.all[j] hj (List.getElem?_eq_getElem (by omega))
        simpa using this
      have hd : g.dropR c = (true, { g with all := g.all.eraseIdx i }) := by unfold GS.dropR; rw [hfi]
      subst hQ
      rw [hd]
      exact ⟨sa', ca', rfl, ha', H.to fun q => by simp only [GS.mem, List.map_append, List.map_cons, List.sum_append, List.sum_cons]; omega⟩
    · rw [decide_eq_false hy]
      (try simp only [W0])
      refine add_k (z := ((i + 1 : Nat) : Int)) (by omega) (by omega) (by omega) ?_
      refine hk (m - 1) _ _ _ _ (by omega) ⟨i + 1, rfl, rfl, rfl, by omega, ?_, H.tail⟩
      intro t s ht hs
      rcases Nat.lt_or_ge t i with h | h
      · exact hno t s h hs
      · obtain rfl : t = i := by omega
        rw [hx] at hs; injection hs with hs; subst hs; exact hy
  · (try simp only [W0])
    unfold F29_j1
    have hfi : g.all.findIdx? (fun s => decide (s.1 = c)) = none := by
      rw [List.findIdx?_eq_none_iff]
      intro s hs
      obtain ⟨t, ht, rfl⟩ := List.getElem_of_mem hs
      exact decide_eq_false (hno t _ (by omega) (List.getElem?_eq_getElem ht))
    have hd : g.dropR c = (false, g) := by unfold GS.dropR; rw [hfi]
    subst hQ
    rw [hd]
    exact ⟨sa, ca, rfl, ha, H0.to fun q => by simp only [GS.mem, List.map_append, List.map_cons, List.sum_append, List.sum_cons]; omega⟩
theorem counts_spec (hc : TR cI w0 cs sc f.counts) (hm : ∀ c ∈ cs, c ∈ F) (hl : f.counts.length ≤ 2 ^ 40) (H : Hp w0 w (f.mem fb mb sr sc F)) : Calls Pg 33 ⟨[ptr fb 0]⟩ w fun e w' => ∃ s' cs', e = .returned s' ∧ TS cI 2 s' f.counts cs' ∧ Hp w0 w' (cs' ++ f.mem fb mb sr sc F) := by
  apply F33_calls
  unfold F33
  (try simp only [W0])
  have H0 := H
  unfold FS.mem at H
  refine ld_m H Has.here (o := 1) (v := sc) rfl ?_
  refine cal_h (clone64_spec hc H0 (fun c hc => List.mem_cons_of_mem _ (List.mem_cons_of_mem _ (hm c hc))) hl) ?_
  rintro _ w ⟨s', cs', rfl, H, h⟩
  exact ⟨s', cs', rfl, h, H⟩
theorem eq64_spec {xs ys : List Int} (h1 : TR cI w0 cs s xs) (h2 : TR cI w0 cs2 s2 ys) (he : xs = ys) (hl : xs.length < 2 ^ 62) (H : Hp w0 w L) (m1 : ∀ c ∈ cs, c ∈ L) (m2 : ∀ c ∈ cs2, c ∈ L) : Calls Pg 32 ⟨[s, s2]⟩ w fun e w' => e = .returned (.bool true) ∧ Hp w0 w' L := by
  subst he
  apply F32_calls
  unfold F32
  refine pv_of (lenS_tr h1) ?_
  refine pv_of (lenS_tr h2) ?_
  refine neq_n (by simp) ?_
  (try simp only [W0])
  unfold F32_j1 F32_j3
  refine pv_of (lenS_tr h1) ?_
  unfold F32_j4
  refine loop4 (F32_l1_succ _) (fun m x0 x1 x12 x13 w => ∃ i : Nat, s = x0 ∧ s2 = x1 ∧ x12 = I (xs.length : Int) ∧ x13 = I (i : Int) ∧ m + i = xs.length ∧ Hp w0 w L) ?_ (m := xs.length) ⟨0, rfl, rfl, rfl, rfl, rfl, H⟩
  clear H
  rintro m k _ _ _ _ w ⟨i, rfl, rfl, rfl, rfl, hm, H⟩ hk
  unfold F32_b1
  refine lss_k (fun hi => ?_) (fun hi => ?_)
  · (try simp only [W0])
    have hx : xs[i]? = some xs[i] := List.getElem?_eq_getElem (by omega)
    generalize xs[i] = a at hx
    unfold F32_j5
    refine drew_k H fun w H => ?_
    refine ix1_t (C := cI) h1 H m1 hx rfl rfl ?_
    refine ix1_t (C := cI) h2 H m2 hx rfl rfl ?_
    refine neq_n (by simp) ?_
    (try simp only [W0])
    refine add_k (z := ((i + 1 : Nat) : Int)) (by omega) (by omega) (by omega) ?_
    exact hk (m - 1) _ _ _ _ _ (by omega) ⟨i + 1, rfl, rfl, rfl, rfl, by omega, H⟩
  · (try simp only [W0])
    unfold F32_j2
    exact ⟨rfl, H⟩
theorem state39_spec {x : Con × Int} (H : Hp w0 w L) : Calls Pg 30 ⟨[.agg ⟨cSt.enc x⟩]⟩ w fun e w' => e = .returned (.agg ⟨cSt.enc x⟩) ∧ Hp w0 w' L := by
  apply F30_calls
  unfold F30
  refine bx_m (vs := cSt.enc x) H fun w b1 H => ?_
  refine al_m (ys := cSt.enc ((0, 0, 0, 0, 0), 0)) H (by kernel_rfl) fun w b2 H => ?_
  refine ldA_m (l := cSt.enc x) H (Has.cons Has.here) rfl ?_
  refine stA_m (vs := cSt.enc x) H Upd.here rfl rfl (cSt.sc x) fun w H => ?_
  refine ldA_m (l := cSt.enc x) H Has.here rfl ?_
  exact ⟨rfl, H.tail.tail⟩
theorem same_spec {x : Con × Int} (H : Hp w0 w L) : Calls Pg 35 ⟨[.agg ⟨cSt.enc x⟩, .agg ⟨cSt.enc x⟩]⟩ w fun e w' => e = .returned (.bool true) ∧ Hp w0 w' L := by
  apply F35_calls
  unfold F35
  refine bx_m (vs := cSt.enc x) H fun w b1 H => ?_
  refine bx_m (vs := cSt.enc x) H fun w b2 H => ?_
  refine drew_k H fun w H => ?_
  refine ldA_m (l := cSt.enc x) H (Has.cons Has.here) rfl ?_
  have c1 : cellsAt w ⟨b2, 0, none⟩ 0 6 = some (cSt.enc x) := H.cellsM Has.here rfl
  (try simp only [W0])
  refine cal_h (state39_spec H) ?_
  rintro _ w ⟨rfl, H⟩
  (try simp only [W0])
  refine ldNS_m (l := cSt.enc x) H Has.here rfl (by intro z hz; rw [List.mem_singleton.1 hz]; exact c1) ?_
  refine pv_of (eqSt x x) ?_
  exact ⟨by rw [decide_eq_true rfl], H.tail.tail⟩
theorem eqf_spec {xs ys : List (Con × Int)} (h1 : TR cSt w0 cs s xs) (h2 : TR cSt w0 cs2 s2 ys) (he : xs = ys) (hl : xs.length < 2 ^ 62) (H : Hp w0 w L) (m1 : ∀ c ∈ cs, c ∈ L) (m2 : ∀ c ∈ cs2, c ∈ L) :
    Calls Pg 34 ⟨[s, s2, .func (.func 35) ⟨[]⟩ ⟨[]⟩]⟩ w fun e w' => e = .returned (.bool true) ∧ Hp w0 w' L := by
  subst he
  apply F34_calls
  unfold F34
  refine pv_of (lenS_tr h1) ?_
  refine pv_of (lenS_tr h2) ?_
  refine neq_n (by simp) ?_
  (try simp only [W0])
  unfold F34_j1 F34_j3
  refine pv_of (lenS_tr h1) ?_
  unfold F34_j4
  refine loop5 (F34_l1_succ _) (fun m x1 x2 x15 x16 x17 w => ∃ i : Nat, s2 = x1 ∧ x2 = .func (.func 35) ⟨[]⟩ ⟨[]⟩ ∧ s = x15 ∧ x16 = I (xs.length : Int) ∧ x17 = I (i : Int) ∧ m + i = xs.length ∧ Hp w0 w L) ?_ (m := xs.length) ⟨0, rfl, rfl, rfl, rfl, rfl, rfl, H⟩
  clear H
  rintro m k _ _ _ _ _ w ⟨i, rfl, rfl, rfl, rfl, rfl, hm, H⟩ hk
  unfold F34_b1
  refine lss_k (fun hi => ?_) (fun hi => ?_)
  · (try simp only [W0])
    have hx : xs[i]? = some xs[i] := List.getElem?_eq_getElem (by omega)
    generalize xs[i] = a at hx
    unfold F34_j5
    refine ixN_t (C := cSt) h1 H m1 hx (by decide) ?_
    refine al_m (ys := cSt.enc ((0, 0, 0, 0, 0), 0)) H (by kernel_rfl) fun w b3 H => ?_
    refine stA_m (vs := cSt.enc a) H Upd.here rfl rfl (cSt.sc a) fun w H => ?_
    refine ixN_t (C := cSt) h2 H (fun c hc => List.mem_cons_of_mem _ (m2 c hc)) hx (by decide) ?_
    refine al_m (ys := cSt.enc ((0, 0, 0, 0, 0), 0)) H (by kernel_rfl) fun w b6 H => ?_
    refine stA_m (vs := cSt.enc a) H Upd.here rfl rfl (cSt.sc a) fun w H => ?_
    refine ldA_m (l := cSt.enc a) H (Has.cons Has.here) rfl ?_
    refine ldA_m (l := cSt.enc a) H Has.here rfl ?_
    refine calD_k (a := []) (b := [.agg ⟨cSt.enc a⟩, .agg ⟨cSt.enc a⟩]) (c := []) (by kernel_rfl) ?_
    refine cal_h (same_spec H) ?_
    rintro _ w ⟨rfl, H⟩
    (try simp only [W0])
    refine add_k (z := ((i + 1 : Nat) : Int)) (by omega) (by omega) (by omega) ?_
    exact hk (m - 1) _ _ _ _ _ _ (by omega) ⟨i + 1, rfl, rfl, rfl, rfl, rfl, by omega, H.tail.tail⟩
  · (try simp only [W0])
    unfold F34_j2
    exact ⟨rfl, H⟩
end
end Go.Proofs.Ytmmbepdghpjgeaa.Den
end
