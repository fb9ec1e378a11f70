/- Channels: an order's comparison, searched for. Conditions: none. -/
import Derived.Test.YtmkcjopacmadhaaGreatChA
set_option linter.unusedVariables false
set_option linter.unusedSimpArgs false
set_option maxRecDepth 8000
set_option maxHeartbeats 1000000
namespace Go.Proofs.YtmkcjopacmadhaaGreat.Den
open Go Go.RowKit
theorem elZ : ElT 50 3 cZ.sz 8 [I 0] := ⟨by kernel_rfl, by kernel_rfl, rfl⟩
def ocv (p c pri com : Int) : Int := if cmpv p pri ≠ 0 then cmpv p pri else cmpv com c
theorem ocv_neg {p c pri com : Int} : ocv p c pri com < 0 ↔ bfr pri com p c = true := by
  unfold ocv cmpv bfr
  simp only [Bool.or_eq_true, Bool.and_eq_true, decide_eq_true_eq]
  split <;> split <;> omega
theorem shr_nat {x k : Nat} {j : IntKind} (hk : k ≤ 64) : bin .shr (.int .u64 (x : Int)) (.int j (k : Int)) = some (.int .u64 ((x / 2 ^ k : Nat) : Int)) := by
  simp only [bin]
  rw [if_neg (by omega)]
  have e0 : min ((k : Int)).toNat IntKind.u64.bits = k := by rw [Int.toNat_natCast]; show min k 64 = k; omega
  rw [e0]
  have : ((x : Int)).fdiv (2 ^ k) = ((x / 2 ^ k : Nat) : Int) := by
    have e4 : (2 ^ k : Int) = ((2 ^ k : Nat) : Int) := by simp
    rw [Int.fdiv_eq_ediv_of_nonneg _ (by rw [e4]; exact Int.natCast_nonneg _), e4, ← Int.natCast_ediv]
  rw [this]
theorem half_h {w : World} {K : VK} {i j : Nat} (h : i + j < 2 ^ 62) (g : K (I (((i + j) / 2 : Nat) : Int)) w) : pv (bin .add (I (i : Int)) (I (j : Int))) (fun v => pv (cvI .u64 v) fun v => pv (bin .shr v (.int .u64 1)) fun v => pv (cvI .i64 v) K) w := by
  refine add_k (z := ((i + j : Nat) : Int)) (by omega) (by omega) (by omega) ?_
  have e1 : IntKind.u64.wrap ((i + j : Nat) : Int) = ((i + j : Nat) : Int) := by
    have e0 : (2 ^ IntKind.u64.bits : Int) = 18446744073709551616 := by decide
    simp only [IntKind.wrap, e0, IntKind.signed, Bool.false_and, Bool.false_eq_true, if_false]
    omega
  have e2 : bin .shr (.int .u64 ((i + j : Nat) : Int)) (.int .u64 1) = some (.int .u64 (((i + j) / 2 : Nat) : Int)) := shr_nat (x := i + j) (k := 1) (by omega)
  have e3 : IntKind.i64.wrap (((i + j) / 2 : Nat) : Int) = (((i + j) / 2 : Nat) : Int) := wrap64_id (by omega) (by omega)
  rw [cvI_mk, pv_some, e1, e2, pv_some, cvI_mk, pv_some, e3]
  exact g
/-- A function that gives the order. -/
structure OfE (g : Nat) : Prop where
  ok : enterOk Pg g = true
  sp : ∀ (e : Ent) (w0 w : World) (L : List Chunk), Hp w0 w L → Calls Pg g ⟨[.agg ⟨e.cells⟩]⟩ w fun x w' => x = .returned (.agg ⟨[I e.pri, I e.com]⟩) ∧ Hp w0 w' L
theorem ofE_ok : OfE 131 := by
  refine ⟨by kernel_rfl, fun e w0 w L H => ?_⟩
  apply F131_calls
  unfold F131
  have hl : e.cells.length = 11 := rfl
  refine bx_m H fun w b H => ?_
  refine al_m (ys := [I 0, I 0]) (by assumption) (by kernel_rfl) fun w b2 H => ?_
  repeat (first | simp only [W0] | refine lss_a ?_ | refine lss_b ?_ | refine gtr_a ?_ | refine gtr_b ?_ | refine geq_a ?_ | refine geq_b ?_ | refine leq_a ?_ | refine leq_b ?_ | refine eql_a ?_ | refine eql_b ?_ | refine neq_a ?_ | refine neq_b ?_ | refine add_a ?_ | refine sub_a ?_ | refine ld_a ?_ | refine ldA_a ?_ | refine ldS_a ?_ | refine ldNS_a ?_ | refine rdA_s ?_ | refine rd1_s ?_ | refine drew_a fun w1 H1 => ?_ | refine st_a fun w1 H1 => ?_ | refine stA_a fun w1 H1 => ?_ | refine lenT_a ?_ | refine lenO_a ?_ | refine ixT_a ?_ | refine ixO_a ?_ | refine bld_a ?_ | refine min_a ?_ | refine max_a ?_ | fail)
  refine ldP_m (by assumption) has (by rw [hl]; decide) (ys := [I e.pri, I e.com]) rfl ?_
  repeat (first | simp only [W0] | refine lss_a ?_ | refine lss_b ?_ | refine gtr_a ?_ | refine gtr_b ?_ | refine geq_a ?_ | refine geq_b ?_ | refine leq_a ?_ | refine leq_b ?_ | refine eql_a ?_ | refine eql_b ?_ | refine neq_a ?_ | refine neq_b ?_ | refine add_a ?_ | refine sub_a ?_ | refine ld_a ?_ | refine ldA_a ?_ | refine ldS_a ?_ | refine ldNS_a ?_ | refine rdA_s ?_ | refine rd1_s ?_ | refine drew_a fun w1 H1 => ?_ | refine st_a fun w1 H1 => ?_ | refine stA_a fun w1 H1 => ?_ | refine lenT_a ?_ | refine lenO_a ?_ | refine ixT_a ?_ | refine ixO_a ?_ | refine bld_a ?_ | refine min_a ?_ | refine max_a ?_ | fail)
  exact ⟨(by first | rfl | trivial), Hp.tail (Hp.tail (by assumption))⟩
section
variable {w w' w0 : World} {L L' F cs cs2 cs3 : List Chunk} {s s2 : Value} {K : VK} {R : ER} {p c : Int} {g fb : Nat}
theorem insEC_spec {e : Ent} (hg : OfE g) (H : Hp w0 w L) (hm : Has L fb (.t 192) [.func (.func g) ⟨[]⟩ ⟨[]⟩]) :
    Calls Pg 159 ⟨[.agg ⟨e.cells⟩, .agg ⟨[I p, I c]⟩, ptr fb 0]⟩ w fun x w' => x = .returned (I (ocv p c e.pri e.com)) ∧ Hp w0 w' L := by
  apply F159_calls
  unfold F159
  refine bx_m H fun w b H => ?_
  refine bx_m H fun w b2 H => ?_
  have hm' : Has (⟨b2, .t 105, [I p, I c]⟩ :: ⟨b, .t 110, e.cells⟩ :: L) fb (.t 192) [.func (.func g) ⟨[]⟩ ⟨[]⟩] := Has.cons (Has.cons hm)
  repeat (first | simp only [W0] | refine lss_a ?_ | refine lss_b ?_ | refine gtr_a ?_ | refine gtr_b ?_ | refine geq_a ?_ | refine geq_b ?_ | refine leq_a ?_ | refine leq_b ?_ | refine eql_a ?_ | refine eql_b ?_ | refine neq_a ?_ | refine neq_b ?_ | refine add_a ?_ | refine sub_a ?_ | refine ld_a ?_ | refine ldA_a ?_ | refine ldS_a ?_ | refine ldNS_a ?_ | refine rdA_s ?_ | refine rd1_s ?_ | refine drew_a fun w1 H1 => ?_ | refine st_a fun w1 H1 => ?_ | refine stA_a fun w1 H1 => ?_ | refine lenT_a ?_ | refine lenO_a ?_ | refine ixT_a ?_ | refine ixO_a ?_ | refine bld_a ?_ | refine min_a ?_ | refine max_a ?_ | fail)
  refine ld_m (by assumption) hm' rfl ?_
  repeat (first | simp only [W0] | refine lss_a ?_ | refine lss_b ?_ | refine gtr_a ?_ | refine gtr_b ?_ | refine geq_a ?_ | refine geq_b ?_ | refine leq_a ?_ | refine leq_b ?_ | refine eql_a ?_ | refine eql_b ?_ | refine neq_a ?_ | refine neq_b ?_ | refine add_a ?_ | refine sub_a ?_ | refine ld_a ?_ | refine ldA_a ?_ | refine ldS_a ?_ | refine ldNS_a ?_ | refine rdA_s ?_ | refine rd1_s ?_ | refine drew_a fun w1 H1 => ?_ | refine st_a fun w1 H1 => ?_ | refine stA_a fun w1 H1 => ?_ | refine lenT_a ?_ | refine lenO_a ?_ | refine ixT_a ?_ | refine ixO_a ?_ | refine bld_a ?_ | refine min_a ?_ | refine max_a ?_ | fail)
  refine calD_k (a := []) (c := []) hg.ok ?_
  refine cal_h (hg.sp e w0 _ _ (by assumption)) ?_
  rintro _ w2 ⟨rfl, H2⟩
  repeat (first | simp only [W0] | refine lss_a ?_ | refine lss_b ?_ | refine gtr_a ?_ | refine gtr_b ?_ | refine geq_a ?_ | refine geq_b ?_ | refine leq_a ?_ | refine leq_b ?_ | refine eql_a ?_ | refine eql_b ?_ | refine neq_a ?_ | refine neq_b ?_ | refine add_a ?_ | refine sub_a ?_ | refine ld_a ?_ | refine ldA_a ?_ | refine ldS_a ?_ | refine ldNS_a ?_ | refine rdA_s ?_ | refine rd1_s ?_ | refine drew_a fun w1 H1 => ?_ | refine st_a fun w1 H1 => ?_ | refine stA_a fun w1 H1 => ?_ | refine lenT_a ?_ | refine lenO_a ?_ | refine ixT_a ?_ | refine ixO_a ?_ | refine bld_a ?_ | refine min_a ?_ | refine max_a ?_ | fail)
  refine pv_of (v := I e.pri) rfl ?_
  refine cal_h (cmp_spec H2) ?_
  rintro _ w3 ⟨rfl, H3⟩
  simp only [ret_k]
  refine ldS_m H3 hm' rfl (by intro x hx; simp only [List.mem_cons, List.not_mem_nil, or_false] at hx; rcases hx with rfl | rfl <;> first | exact H3.cellM hm' rfl | exact H2.cellM hm' rfl | exact Hp.cellM (by assumption) hm' rfl) ?_
  repeat (first | simp only [W0] | refine lss_a ?_ | refine lss_b ?_ | refine gtr_a ?_ | refine gtr_b ?_ | refine geq_a ?_ | refine geq_b ?_ | refine leq_a ?_ | refine leq_b ?_ | refine eql_a ?_ | refine eql_b ?_ | refine neq_a ?_ | refine neq_b ?_ | refine add_a ?_ | refine sub_a ?_ | refine ld_a ?_ | refine ldA_a ?_ | refine ldS_a ?_ | refine ldNS_a ?_ | refine rdA_s ?_ | refine rd1_s ?_ | refine drew_a fun w1 H1 => ?_ | refine st_a fun w1 H1 => ?_ | refine stA_a fun w1 H1 => ?_ | refine lenT_a ?_ | refine lenO_a ?_ | refine ixT_a ?_ | refine ixO_a ?_ | refine bld_a ?_ | refine min_a ?_ | refine max_a ?_ | fail)
  refine calD_k (a := []) (c := []) hg.ok ?_
  refine cal_h (hg.sp e w0 _ _ H3) ?_
  rintro _ w4 ⟨rfl, H4⟩
  simp only [ret_k]
  refine pv_of (v := I e.com) rfl ?_
  repeat (first | simp only [W0] | refine lss_a ?_ | refine lss_b ?_ | refine gtr_a ?_ | refine gtr_b ?_ | refine geq_a ?_ | refine geq_b ?_ | refine leq_a ?_ | refine leq_b ?_ | refine eql_a ?_ | refine eql_b ?_ | refine neq_a ?_ | refine neq_b ?_ | refine add_a ?_ | refine sub_a ?_ | refine ld_a ?_ | refine ldA_a ?_ | refine ldS_a ?_ | refine ldNS_a ?_ | refine rdA_s ?_ | refine rd1_s ?_ | refine drew_a fun w1 H1 => ?_ | refine st_a fun w1 H1 => ?_ | refine stA_a fun w1 H1 => ?_ | refine lenT_a ?_ | refine lenO_a ?_ | refine ixT_a ?_ | refine ixO_a ?_ | refine bld_a ?_ | refine min_a ?_ | refine max_a ?_ | fail)
  refine cal_h (cmp_spec H4) ?_
  rintro _ w5 ⟨rfl, H5⟩
  simp only [ret_k]
  refine lit_t (C := cZ) [cmpv p e.pri, cmpv e.com c] elZ H5 rfl (by decide) (by decide) rfl fun w6 s6 cs6 H6 hs6 => ?_
  refine cal_h (or_spec hs6.tr H6 (by intro c hc; simp [hc])) ?_
  rintro _ w7 ⟨rfl, H7⟩
  exact ⟨rfl, H7.to (by intro f; simp only [List.map_append, List.map_cons, List.sum_append, List.sum_cons]; omega)⟩
end
/-- A function that gives the order. -/
structure OfR (g : Nat) : Prop where
  ok : enterOk Pg g = true
  sp : ∀ (e : Rcv) (w0 w : World) (L : List Chunk), Hp w0 w L → Calls Pg g ⟨[.agg ⟨e.cells⟩]⟩ w fun x w' => x = .returned (.agg ⟨[I e.pri, I e.com]⟩) ∧ Hp w0 w' L
theorem ofR_ok : OfR 86 := by
  refine ⟨by kernel_rfl, fun e w0 w L H => ?_⟩
  apply F86_calls
  unfold F86
  have hl : e.cells.length = 4 := rfl
  refine bx_m H fun w b H => ?_
  refine al_m (ys := [I 0, I 0]) (by assumption) (by kernel_rfl) fun w b2 H => ?_
  repeat (first | simp only [W0] | refine lss_a ?_ | refine lss_b ?_ | refine gtr_a ?_ | refine gtr_b ?_ | refine geq_a ?_ | refine geq_b ?_ | refine leq_a ?_ | refine leq_b ?_ | refine eql_a ?_ | refine eql_b ?_ | refine neq_a ?_ | refine neq_b ?_ | refine add_a ?_ | refine sub_a ?_ | refine ld_a ?_ | refine ldA_a ?_ | refine ldS_a ?_ | refine ldNS_a ?_ | refine rdA_s ?_ | refine rd1_s ?_ | refine drew_a fun w1 H1 => ?_ | refine st_a fun w1 H1 => ?_ | refine stA_a fun w1 H1 => ?_ | refine lenT_a ?_ | refine lenO_a ?_ | refine ixT_a ?_ | refine ixO_a ?_ | refine bld_a ?_ | refine min_a ?_ | refine max_a ?_ | fail)
  refine ldP_m (by assumption) has (by rw [hl]; decide) (ys := [I e.pri, I e.com]) rfl ?_
  repeat (first | simp only [W0] | refine lss_a ?_ | refine lss_b ?_ | refine gtr_a ?_ | refine gtr_b ?_ | refine geq_a ?_ | refine geq_b ?_ | refine leq_a ?_ | refine leq_b ?_ | refine eql_a ?_ | refine eql_b ?_ | refine neq_a ?_ | refine neq_b ?_ | refine add_a ?_ | refine sub_a ?_ | refine ld_a ?_ | refine ldA_a ?_ | refine ldS_a ?_ | refine ldNS_a ?_ | refine rdA_s ?_ | refine rd1_s ?_ | refine drew_a fun w1 H1 => ?_ | refine st_a fun w1 H1 => ?_ | refine stA_a fun w1 H1 => ?_ | refine lenT_a ?_ | refine lenO_a ?_ | refine ixT_a ?_ | refine ixO_a ?_ | refine bld_a ?_ | refine min_a ?_ | refine max_a ?_ | fail)
  exact ⟨(by first | rfl | trivial), Hp.tail (Hp.tail (by assumption))⟩
section
variable {w w' w0 : World} {L L' F cs cs2 cs3 : List Chunk} {s s2 : Value} {K : VK} {R : ER} {p c : Int} {g fb : Nat}
theorem insRC_spec {e : Rcv} (hg : OfR g) (H : Hp w0 w L) (hm : Has L fb (.t 150) [.func (.func g) ⟨[]⟩ ⟨[]⟩]) :
    Calls Pg 133 ⟨[.agg ⟨e.cells⟩, .agg ⟨[I p, I c]⟩, ptr fb 0]⟩ w fun x w' => x = .returned (I (ocv p c e.pri e.com)) ∧ Hp w0 w' L := by
  apply F133_calls
  unfold F133
  refine bx_m H fun w b H => ?_
  refine bx_m H fun w b2 H => ?_
  have hm' : Has (⟨b2, .t 105, [I p, I c]⟩ :: ⟨b, .t 107, e.cells⟩ :: L) fb (.t 150) [.func (.func g) ⟨[]⟩ ⟨[]⟩] := Has.cons (Has.cons hm)
  repeat (first | simp only [W0] | refine lss_a ?_ | refine lss_b ?_ | refine gtr_a ?_ | refine gtr_b ?_ | refine geq_a ?_ | refine geq_b ?_ | refine leq_a ?_ | refine leq_b ?_ | refine eql_a ?_ | refine eql_b ?_ | refine neq_a ?_ | refine neq_b ?_ | refine add_a ?_ | refine sub_a ?_ | refine ld_a ?_ | refine ldA_a ?_ | refine ldS_a ?_ | refine ldNS_a ?_ | refine rdA_s ?_ | refine rd1_s ?_ | refine drew_a fun w1 H1 => ?_ | refine st_a fun w1 H1 => ?_ | refine stA_a fun w1 H1 => ?_ | refine lenT_a ?_ | refine lenO_a ?_ | refine ixT_a ?_ | refine ixO_a ?_ | refine bld_a ?_ | refine min_a ?_ | refine max_a ?_ | fail)
  refine ld_m (by assumption) hm' rfl ?_
  repeat (first | simp only [W0] | refine lss_a ?_ | refine lss_b ?_ | refine gtr_a ?_ | refine gtr_b ?_ | refine geq_a ?_ | refine geq_b ?_ | refine leq_a ?_ | refine leq_b ?_ | refine eql_a ?_ | refine eql_b ?_ | refine neq_a ?_ | refine neq_b ?_ | refine add_a ?_ | refine sub_a ?_ | refine ld_a ?_ | refine ldA_a ?_ | refine ldS_a ?_ | refine ldNS_a ?_ | refine rdA_s ?_ | refine rd1_s ?_ | refine drew_a fun w1 H1 => ?_ | refine st_a fun w1 H1 => ?_ | refine stA_a fun w1 H1 => ?_ | refine lenT_a ?_ | refine lenO_a ?_ | refine ixT_a ?_ | refine ixO_a ?_ | refine bld_a ?_ | refine min_a ?_ | refine max_a ?_ | fail)
  refine calD_k (a := []) (c := []) hg.ok ?_
  refine cal_h (hg.sp e w0 _ _ (by assumption)) ?_
  rintro _ w2 ⟨rfl, H2⟩
  repeat (first | simp only [W0] | refine lss_a ?_ | refine lss_b ?_ | refine gtr_a ?_ | refine gtr_b ?_ | refine geq_a ?_ | refine geq_b ?_ | refine leq_a ?_ | refine leq_b ?_ | refine eql_a ?_ | refine eql_b ?_ | refine neq_a ?_ | refine neq_b ?_ | refine add_a ?_ | refine sub_a ?_ | refine ld_a ?_ | refine ldA_a ?_ | refine ldS_a ?_ | refine ldNS_a ?_ | refine rdA_s ?_ | refine rd1_s ?_ | refine drew_a fun w1 H1 => ?_ | refine st_a fun w1 H1 => ?_ | refine stA_a fun w1 H1 => ?_ | refine lenT_a ?_ | refine lenO_a ?_ | refine ixT_a ?_ | refine ixO_a ?_ | refine bld_a ?_ | refine min_a ?_ | refine max_a ?_ | fail)
  refine pv_of (v := I e.pri) rfl ?_
  refine cal_h (cmp_spec H2) ?_
  rintro _ w3 ⟨rfl, H3⟩
  simp only [ret_k]
  refine ldS_m H3 hm' rfl (by intro x hx; simp only [List.mem_cons, List.not_mem_nil, or_false] at hx; rcases hx with rfl | rfl <;> first | exact H3.cellM hm' rfl | exact H2.cellM hm' rfl | exact Hp.cellM (by assumption) hm' rfl) ?_
  repeat (first | simp only [W0] | refine lss_a ?_ | refine lss_b ?_ | refine gtr_a ?_ | refine gtr_b ?_ | refine geq_a ?_ | refine geq_b ?_ | refine leq_a ?_ | refine leq_b ?_ | refine eql_a ?_ | refine eql_b ?_ | refine neq_a ?_ | refine neq_b ?_ | refine add_a ?_ | refine sub_a ?_ | refine ld_a ?_ | refine ldA_a ?_ | refine ldS_a ?_ | refine ldNS_a ?_ | refine rdA_s ?_ | refine rd1_s ?_ | refine drew_a fun w1 H1 => ?_ | refine st_a fun w1 H1 => ?_ | refine stA_a fun w1 H1 => ?_ | refine lenT_a ?_ | refine lenO_a ?_ | refine ixT_a ?_ | refine ixO_a ?_ | refine bld_a ?_ | refine min_a ?_ | refine max_a ?_ | fail)
  refine calD_k (a := []) (c := []) hg.ok ?_
  refine cal_h (hg.sp e w0 _ _ H3) ?_
  rintro _ w4 ⟨rfl, H4⟩
  simp only [ret_k]
  refine pv_of (v := I e.com) rfl ?_
  repeat (first | simp only [W0] | refine lss_a ?_ | refine lss_b ?_ | refine gtr_a ?_ | refine gtr_b ?_ | refine geq_a ?_ | refine geq_b ?_ | refine leq_a ?_ | refine leq_b ?_ | refine eql_a ?_ | refine eql_b ?_ | refine neq_a ?_ | refine neq_b ?_ | refine add_a ?_ | refine sub_a ?_ | refine ld_a ?_ | refine ldA_a ?_ | refine ldS_a ?_ | refine ldNS_a ?_ | refine rdA_s ?_ | refine rd1_s ?_ | refine drew_a fun w1 H1 => ?_ | refine st_a fun w1 H1 => ?_ | refine stA_a fun w1 H1 => ?_ | refine lenT_a ?_ | refine lenO_a ?_ | refine ixT_a ?_ | refine ixO_a ?_ | refine bld_a ?_ | refine min_a ?_ | refine max_a ?_ | fail)
  refine cal_h (cmp_spec H4) ?_
  rintro _ w5 ⟨rfl, H5⟩
  simp only [ret_k]
  refine lit_t (C := cZ) [cmpv p e.pri, cmpv e.com c] elZ H5 rfl (by decide) (by decide) rfl fun w6 s6 cs6 H6 hs6 => ?_
  refine cal_h (or_spec hs6.tr H6 (by intro c hc; simp [hc])) ?_
  rintro _ w7 ⟨rfl, H7⟩
  exact ⟨rfl, H7.to (by intro f; simp only [List.map_append, List.map_cons, List.sum_append, List.sum_cons]; omega)⟩
end
end Go.Proofs.YtmkcjopacmadhaaGreat.Den
