/- Packet filter: the states in an order: the library's sort at this program. Conditions: none. -/
import Derived.Test.YtmmbepdghpjgeaaFlT
import Derived.Test.YtmmbepdghpjgeaaOsort
import Derived.Test.YtmmbepdghpjgeaaFnsB
set_option linter.unusedVariables false
set_option linter.unusedSimpArgs false
set_option maxRecDepth 8000
set_option maxHeartbeats 1000000
namespace Go.Proofs.Ytmmbepdghpjgeaa.Den
open Go Go.RowKit
def sortC_ren : Go.Shelf.Ren := ⟨fun | 6 => 74 | 15 => 88 | 14 => 87 | 28 => 101 | 29 => 102 | 20 => 93 | 21 => 94 | 22 => 95 | 23 => 96 | 24 => 97 | 25 => 98 | 26 => 99 | 27 => 100 | 46 => 104 | 47 => 105 | 48 => 106 | 49 => 107 | 50 => 108 | 57 => 109 | n => n, fun | 22 => 123 | 24 => 119 | 25 => 151 | 3 => 3 | 39 => 142 | 0 => 0 | 53 => 23 | 55 => 145 | 4 => 4 | 46 => 171 | 45 => 170 | 50 => 46 | 5 => 5 | 9 => 9 | 66 => 179 | 70 => 183 | 76 => 185 | 77 => 186 | n => n, fun | n => n⟩
theorem sortC : Go.Proofs.SlLaysF0.n6 Try.prog sortC_ren := { mixed := by kernel_rfl, f6 := ⟨Try.f74.name, by decide, Try.func74.trans (congrArg some (by kernel_rfl))⟩, f14 := ⟨Try.f87.name, by decide, Try.func87.trans (congrArg some (by kernel_rfl))⟩, f15 := Try.func88.trans (congrArg some (by kernel_rfl)), f20 := ⟨Try.f93.name, by decide, Try.func93.trans (congrArg some (by kernel_rfl))⟩, f21 := ⟨Try.f94.name, by decide, Try.func94.trans (congrArg some (by kernel_rfl))⟩, f22 := ⟨Try.f95.name, by decide, Try.func95.trans (congrArg some (by kernel_rfl))⟩, f23 := ⟨Try.f96.name, by decide, Try.func96.trans (congrArg some (by kernel_rfl))⟩, f24 := ⟨Try.f97.name, by decide, Try.func97.trans (congrArg some (by kernel_rfl))⟩, f25 := ⟨Try.f98.name, by decide, Try.func98.trans (congrArg some (by kernel_rfl))⟩, f26 := ⟨Try.f99.name, by decide, Try.func99.trans (congrArg some (by kernel_rfl))⟩, f27 := ⟨Try.f100.name, by decide, Try.func100.trans (congrArg some (by kernel_rfl))⟩, f28 := Try.func101.trans (congrArg some (by kernel_rfl)), f29 := Try.func102.trans (congrArg some (by kernel_rfl)), f46 := ⟨Try.f104.name, by decide, Try.func104.trans (congrArg some (by kernel_rfl))⟩, f47 := Try.func105.trans (congrArg some (by kernel_rfl)), f48 := Try.func106.trans (congrArg some (by kernel_rfl)), f49 := ⟨Try.f107.name, by decide, Try.func107.trans (congrArg some (by kernel_rfl))⟩, f50 := ⟨Try.f108.name, by decide, Try.func108.trans (congrArg some (by kernel_rfl))⟩, f57 := ⟨Try.f109.name, by decide, Try.func109.trans (congrArg some (by kernel_rfl))⟩, t0 := Try.underlying0, a0 := Try.isAgg0, z0 := Try.sizeOf0, v0 := Try.zeroValue0, t3 := Try.underlying3, a3 := Try.isAgg3, z3 := Try.sizeOf3, v3 := Try.zeroValue3, t4 := Try.underlying4, a4 := Try.isAgg4, z4 := Try.sizeOf4, v4 := Try.zeroValue4, t5 := Try.underlying5, a5 := Try.isAgg5, z5 := Try.sizeOf5, v5 := Try.zeroValue5, t9 := Try.underlying9, a9 := Try.isAgg9, z9 := Try.sizeOf9, v9 := Try.zeroValue9, t22 := Try.underlying123, a22 := Try.isAgg123, z22 := Try.sizeOf123, v22 := Try.zeroValue123, t25 := Try.underlying151, a25 := Try.isAgg151, z25 := Try.sizeOf151, v25 := Try.zeroValue151, t39 := Try.underlying142, a39 := Try.isAgg142, z39 := Try.sizeOf142, v39 := Try.zeroValue142, t45 := Try.underlying170, a45 := Try.isAgg170, z45 := Try.sizeOf170, v45 := Try.zeroValue170, t46 := Try.underlying171, a46 := Try.isAgg171, z46 := Try.sizeOf171, v46 := Try.zeroValue171, t50 := Try.underlying46, a50 := Try.isAgg46, z50 := Try.sizeOf46, v50 := Try.zeroValue46, t53 := Try.underlying23, a53 := Try.isAgg23, z53 := Try.sizeOf23, v53 := Try.zeroValue23, t55 := Try.underlying145, a55 := Try.isAgg145, z55 := Try.sizeOf145, v55 := Try.zeroValue145, t66 := Try.underlying179, a66 := Try.isAgg179, z66 := Try.sizeOf179, v66 := Try.zeroValue179, t70 := Try.underlying183, a70 := Try.isAgg183, z70 := Try.sizeOf183, v70 := Try.zeroValue183, t76 := Try.underlying185, a76 := Try.isAgg185, z76 := Try.sizeOf185, v76 := Try.zeroValue185, t77 := Try.underlying186, a77 := Try.isAgg186, z77 := Try.sizeOf186, v77 := Try.zeroValue186 }

def cmpZ (a b : Int) : Int := if a < b then -1 else if b < a then 1 else 0
def cmpE (x y : Ey) : Int := if cmpZ x.1 y.1 ≠ 0 then cmpZ x.1 y.1 else cmpZ x.2 y.2
def cmpM (x y : Ey) : Int := cmpZ x.2 y.2
def getE (ents : List (Con × Ey × Nat)) (x : Con) : Ey := (mget x ents).getD (0, 0)
theorem cmpE_lt (x y : Ey) : cmpE x y < 0 ↔ x.1 < y.1 ∨ (x.1 = y.1 ∧ x.2 < y.2) := by
  unfold cmpE cmpZ
  repeat' split
  all_goals omega
theorem cmpM_lt (x y : Ey) : cmpM x y < 0 ↔ x.2 < y.2 := by
  unfold cmpM cmpZ
  repeat' split
  all_goals omega
theorem swoE (ents : List (Con × Ey × Nat)) : Go.Sort.SWO (ltOf fun x y => cmpE (getE ents x) (getE ents y)) where
  irrefl x := by unfold ltOf; rw [decide_eq_false]; rw [cmpE_lt]; omega
  trans x y z h1 h2 := by unfold ltOf at *; rw [decide_eq_true_eq, cmpE_lt] at *; omega
  ntrans x y z h1 h2 := by unfold ltOf at *; rw [decide_eq_false_iff_not, cmpE_lt] at *; omega
theorem swoM (ents : List (Con × Ey × Nat)) : Go.Sort.SWO (ltOf fun x y => cmpM (getE ents x) (getE ents y)) where
  irrefl x := by unfold ltOf; rw [decide_eq_false]; rw [cmpM_lt]; omega
  trans x y z h1 h2 := by unfold ltOf at *; rw [decide_eq_true_eq, cmpM_lt] at *; omega
  ntrans x y z h1 h2 := by unfold ltOf at *; rw [decide_eq_false_iff_not, cmpM_lt] at *; omega
section
variable {w w' w0 : World} {L L' F cs A X Y : List Chunk} {s sr sc : Value} {K : VK} {R : ER} {b i j fb mb : Nat}
theorem Hp.old {a : Addr} {v : Value} (H : Hp w0 w L) (h : w0.cell? a = some v) : w.cell? a = some v := by
  have hl := cell_lt h
  have e := H.ext.block a.block hl (by simp)
  rw [← h]; unfold World.cell?; rw [e]
theorem ld_o {a : Addr} {v : Value} (H : Hp w0 w L) (h : w0.cell? a = some v) (k : K v w) : ld1 (.pointer (some a)) K w := by
  simp only [ld1, H.old h]; exact k
theorem rd_o {a : Addr} {v : Value} {G : WP} (H : Hp w0 w L) (h : w0.cell? a = some v) (g : G w) : rd1 (.pointer (some a)) v G w := rd1_a (H.old h) g
theorem lookup_o {ents : List (Con × Ey × Nat)} {clk : Nat} (x : Con) (H : Hp w0 w L) (h : w0.heap[mb]? = some (mobj kC vE ents clk)) (k : K (vE (getE ents x)) w) : valV Pg R (Instr.lookup 115 (.map (some mb)) (kC x) false) K w := by
  have h' : w.heap[mb]? = some (mobj kC vE ents clk) := heap_ext h H.ext (by simp)
  unfold valV; rw [lookup_run mapC x false h']; exact k
theorem nanI_spec {a : Int} (H : Hp w0 w L) : Calls Pg 76 ⟨[I a]⟩ w fun e w' => e = .returned (.bool false) ∧ Hp w0 w' L := by
  apply F76_calls
  unfold F76
  refine neq_n (by simp) ?_
  exact ⟨rfl, H⟩
theorem cmpI_spec {a b : Int} (H : Hp w0 w L) : Calls Pg 53 ⟨[I a, I b]⟩ w fun e w' => e = .returned (I (cmpZ a b)) ∧ Hp w0 w' L := by
  apply F53_calls
  unfold F53
  refine cal_h (nanI_spec H) ?_
  rintro _ w ⟨rfl, H⟩
  (try simp only [W0])
  refine cal_h (nanI_spec H) ?_
  rintro _ w ⟨rfl, H⟩
  (try simp only [W0])
  unfold F53_j1
  (try simp only [W0])
  refine lss_k (fun h => ?_) (fun h => ?_)
  · (try simp only [W0])
    exact ⟨by rw [cmpZ, if_pos h], H⟩
  · (try simp only [W0])
    refine gtr_k (fun h2 => ?_) (fun h2 => ?_)
    · (try simp only [W0])
      exact ⟨by rw [cmpZ, if_neg h, if_pos h2], H⟩
    · (try simp only [W0])
      exact ⟨by rw [cmpZ, if_neg h, if_neg h2], H⟩
theorem nan6_spec {a : Int} (H : Hp w0 w L) : Calls Pg 86 ⟨[I a]⟩ w fun e w' => e = .returned (.bool false) ∧ Hp w0 w' L := by
  apply F86_calls
  unfold F86
  refine neq_n (by simp) ?_
  exact ⟨rfl, H⟩
theorem cmp6_spec {a b : Int} (H : Hp w0 w L) : Calls Pg 73 ⟨[I a, I b]⟩ w fun e w' => e = .returned (I (cmpZ a b)) ∧ Hp w0 w' L := by
  apply F73_calls
  unfold F73
  refine cal_h (nan6_spec H) ?_
  rintro _ w ⟨rfl, H⟩
  (try simp only [W0])
  refine cal_h (nan6_spec H) ?_
  rintro _ w ⟨rfl, H⟩
  (try simp only [W0])
  unfold F73_j1
  (try simp only [W0])
  refine lss_k (fun h => ?_) (fun h => ?_)
  · (try simp only [W0])
    exact ⟨by rw [cmpZ, if_pos h], H⟩
  · (try simp only [W0])
    refine gtr_k (fun h2 => ?_) (fun h2 => ?_)
    · (try simp only [W0])
      exact ⟨by rw [cmpZ, if_neg h, if_pos h2], H⟩
    · (try simp only [W0])
      exact ⟨by rw [cmpZ, if_neg h, if_neg h2], H⟩
theorem elIntC : ElT 50 3 cI.sz 8 [I 0] := ⟨by kernel_rfl, by kernel_rfl, rfl⟩
theorem or_spec {a b : Int} (h : TR cI w0 cs s [a, b]) (H : Hp w0 w L) (m1 : ∀ c ∈ cs, c ∈ L) : Calls Pg 72 ⟨[s]⟩ w fun e w' => e = .returned (I (if a ≠ 0 then a else b)) ∧ Hp w0 w' L := by
  apply F72_calls
  unfold F72 F72_j2
  refine pv_of (lenS_tr h) ?_
  unfold F72_j3
  refine ⟨3, ?_⟩
  show F72_l1 _ 3 (I 0) s (I 2) (I 0) w
  rw [F72_l1_succ]
  unfold F72_b1
  refine lss_y (by decide) ?_
  (try simp only [W0])
  refine ix1_t (C := cI) (i := 0) h H m1 rfl rfl rfl ?_
  refine neq_k (fun h1 => ?_) (fun h1 => ?_)
  · (try simp only [W0])
    exact ⟨by rw [if_pos h1], H⟩
  (try simp only [W0])
  refine add_k (z := 1) (by decide) (by decide) (by decide) ?_
  rw [F72_l1_succ]
  unfold F72_b1
  refine lss_y (by decide) ?_
  (try simp only [W0])
  refine ix1_t (C := cI) (i := 1) h H m1 rfl rfl rfl ?_
  refine neq_k (fun h2 => ?_) (fun h2 => ?_)
  · (try simp only [W0])
    exact ⟨by rw [if_neg (by simpa using h1)], H⟩
  (try simp only [W0])
  refine add_k (z := 2) (by decide) (by decide) (by decide) ?_
  rw [F72_l1_succ]
  unfold F72_b1
  refine lss_n (by decide) ?_
  (try simp only [W0])
  unfold F72_j1
  exact ⟨by rw [if_neg (by simpa using h1), h2], H⟩
theorem make1_spec {x y : Ey} (H : Hp w0 w L) : Calls Pg 71 ⟨[vE x, vE y]⟩ w fun e w' => e = .returned (I (cmpE x y)) ∧ Hp w0 w' L := by
  apply F71_calls
  unfold F71 vE
  refine bx_m H fun w b1 H => ?_
  refine bx_m H fun w b2 H => ?_
  refine drew_k H fun w H => ?_
  (try simp only [W0])
  refine ld_a ?_
  (try simp only [W0])
  refine ld_a ?_
  have c1 : w.cell? ⟨b1, 1, none⟩ = some (I x.2) := H.cellM (t := 121) (l := [I x.1, I x.2]) has rfl
  have c2 : w.cell? ⟨b2, 1, none⟩ = some (I y.2) := H.cellM (t := 121) (l := [I y.1, I y.2]) has rfl
  (try simp only [W0])
  refine cal_h (cmp6_spec H) ?_
  rintro _ w ⟨rfl, H⟩
  (try simp only [W0])
  refine ldS_m H (o := 1) has rfl (by intro z hz; rw [List.mem_singleton.1 hz]; exact c1) ?_
  (try simp only [W0])
  refine ldS_m H (o := 1) has rfl (by intro z hz; rw [List.mem_singleton.1 hz]; exact c2) ?_
  (try simp only [W0])
  refine cal_h (cmpI_spec H) ?_
  rintro _ w ⟨rfl, H⟩
  (try simp only [W0])
  refine lit_t (C := cI) [cmpZ x.1 y.1, cmpZ x.2 y.2] elIntC H rfl (by decide) (by decide) rfl fun w s9 c9 H h9 => ?_
  refine cal_h (or_spec h9.tr H (fun c hc => List.mem_append_left _ hc)) ?_
  rintro _ w ⟨rfl, H⟩
  (try simp only [W0])
  exact ⟨rfl, H.right.tail.tail⟩
theorem states1_spec {x y : Ey} (H : Hp w0 w L) : Calls Pg 52 ⟨[vE x, vE y]⟩ w fun e w' => e = .returned (I (cmpM x y)) ∧ Hp w0 w' L := by
  apply F52_calls
  unfold F52 vE
  refine bx_m H fun w b1 H => ?_
  refine bx_m H fun w b2 H => ?_
  (try simp only [W0])
  refine ld_a ?_
  (try simp only [W0])
  refine ld_a ?_
  refine cal_h (cmpI_spec H) ?_
  rintro _ w ⟨rfl, H⟩
  (try simp only [W0])
  exact ⟨rfl, H.tail.tail⟩
/-- The order at two keys, with the filter and the order in old memory. -/
theorem ord1_spec {g x2 x3 clk : Nat} {cmp : Ey → Ey → Int} {ents : List (Con × Ey × Nat)} {W : World} (hx2 : W.cell? ⟨x2, 0, none⟩ = some (.func (.func g) ⟨[]⟩ ⟨[]⟩)) (hx3 : W.cell? ⟨x3, 0, none⟩ = some (ptr fb 0)) (hfb : W.cell? ⟨fb, 4, none⟩ = some (.map (some mb)))
    (hmb : W.heap[mb]? = some (mobj kC vE ents clk)) (hg : enterOk Pg g = true) (hcmp : ∀ (a b : Ey) (w : World) (L : List Chunk), Hp W w L → Calls Pg g ⟨[vE a, vE b]⟩ w fun e w' => e = .returned (I (cmp a b)) ∧ Hp W w' L) (x y : Con) :
    Calls Pg 75 ⟨[kC x, kC y, ptr x2 0, ptr x3 0]⟩ W fun e w' => e = .returned (I (cmp (getE ents x) (getE ents y))) ∧ Hp W w' [] := by
  have H : Hp W W [] := Hp.refl W
  apply F75_calls
  unfold F75 kC
  refine bx_m H fun w b1 H => ?_
  refine bx_m H fun w b2 H => ?_
  refine drew_k H fun w H => ?_
  have fin : ∀ {w : World}, Hp W w (⟨b2, .t 119, Con.enc y⟩ :: ⟨b1, .t 119, Con.enc x⟩ :: []) → calD Pg noR (.func (.func g) ⟨[]⟩ ⟨[]⟩) ⟨[vE (getE ents x), vE (getE ents y)]⟩ (fun v18 w' => (Ending.returned v18 = .returned (I (cmp (getE ents x) (getE ents y))) ∧ Hp W w' [])) w := by
    intro w H
    refine calD_k (a := []) (b := [vE (getE ents x), vE (getE ents y)]) (c := []) hg ?_
    refine cal_h (hcmp _ _ w _ H) ?_
    rintro _ w ⟨rfl, H⟩
    (try simp only [W0])
    exact ⟨(by first | rfl | trivial), H.tail.tail⟩
  refine ld_o H hx2 ?_
  refine ld_o H hx3 ?_
  (try simp only [W0])
  refine ld_o H hfb ?_
  refine ldA_m (l := Con.enc x) H has rfl ?_
  refine ld_o H hx3 ?_
  (try simp only [W0])
  refine ld_o H hfb ?_
  refine ldA_m (l := Con.enc y) H has rfl ?_
  refine ⟨?_, ?_⟩
  · refine lookup_o x H hmb ?_
    refine rdA_m H has rfl ?_
    refine rd_o H hfb ?_
    refine rd_o H hx3 ?_
    refine rd_o H hx2 ?_
    (try simp only [W0])
    refine lookup_o y H hmb ?_
    refine rdA_m H has rfl ?_
    refine rd_o H hfb ?_
    refine rd_o H hx3 ?_
    refine rd_o H hx2 ?_
    exact fin H
  · (try simp only [allW, W0])
    refine lookup_o y H hmb ?_
    refine rdA_m H has rfl ?_
    refine rd_o H hfb ?_
    refine rd_o H hx3 ?_
    refine rd_o H hx2 ?_
    (try simp only [W0])
    refine lookup_o x H hmb ?_
    refine rdA_m H has rfl ?_
    refine rd_o H hfb ?_
    refine rd_o H hx3 ?_
    refine rd_o H hx2 ?_
    exact fin H
end
end Go.Proofs.Ytmmbepdghpjgeaa.Den
