/- Inherit: the edges sorted. Conditions: none. -/
import Derived.Test.YtagcifbfokneoaaIhI
import Derived.Test.YtagcifbfokneoaaOsort
set_option linter.unusedVariables false
set_option linter.unusedSimpArgs false
set_option maxRecDepth 8000
namespace Go.Proofs.Ytagcifbfokneoaa.Den
open Go Go.RowKit
/-! ### the library's sort, at this program -/
def sortE_ren : Go.Shelf.Ren := ⟨fun | 6 => 65 | 15 => 72 | 14 => 71 | 28 => 83 | 29 => 84 | 20 => 75 | 21 => 76 | 22 => 77 | 23 => 78 | 24 => 79 | 25 => 80 | 26 => 81 | 27 => 82 | 46 => 85 | 47 => 86 | 48 => 87 | 49 => 88 | 50 => 89 | 57 => 90 | n => n, fun | 22 => 23 | 24 => 39 | 25 => 99 | 3 => 3 | 39 => 110 | 0 => 0 | 53 => 121 | 55 => 123 | 4 => 4 | 46 => 114 | 45 => 113 | 50 => 118 | 5 => 5 | 9 => 9 | 66 => 124 | 70 => 128 | 76 => 130 | 77 => 131 | n => n, fun | n => n⟩
theorem sortE : Go.Proofs.SlLaysF0.n6 Try.prog sortE_ren := { mixed := by kernel_rfl, f6 := ⟨Try.f65.name, by decide, Try.func65.trans (congrArg some (by kernel_rfl))⟩, f14 := ⟨Try.f71.name, by decide, Try.func71.trans (congrArg some (by kernel_rfl))⟩, f15 := Try.func72.trans (congrArg some (by kernel_rfl)), f20 := ⟨Try.f75.name, by decide, Try.func75.trans (congrArg some (by kernel_rfl))⟩, f21 := ⟨Try.f76.name, by decide, Try.func76.trans (congrArg some (by kernel_rfl))⟩, f22 := ⟨Try.f77.name, by decide, Try.func77.trans (congrArg some (by kernel_rfl))⟩, f23 := ⟨Try.f78.name, by decide, Try.func78.trans (congrArg some (by kernel_rfl))⟩, f24 := ⟨Try.f79.name, by decide, Try.func79.trans (congrArg some (by kernel_rfl))⟩, f25 := ⟨Try.f80.name, by decide, Try.func80.trans (congrArg some (by kernel_rfl))⟩, f26 := ⟨Try.f81.name, by decide, Try.func81.trans (congrArg some (by kernel_rfl))⟩, f27 := ⟨Try.f82.name, by decide, Try.func82.trans (congrArg some (by kernel_rfl))⟩, f28 := Try.func83.trans (congrArg some (by kernel_rfl)), f29 := Try.func84.trans (congrArg some (by kernel_rfl)), f46 := ⟨Try.f85.name, by decide, Try.func85.trans (congrArg some (by kernel_rfl))⟩, f47 := Try.func86.trans (congrArg some (by kernel_rfl)), f48 := Try.func87.trans (congrArg some (by kernel_rfl)), f49 := ⟨Try.f88.name, by decide, Try.func88.trans (congrArg some (by kernel_rfl))⟩, f50 := ⟨Try.f89.name, by decide, Try.func89.trans (congrArg some (by kernel_rfl))⟩, f57 := ⟨Try.f90.name, by decide, Try.func90.trans (congrArg some (by kernel_rfl))⟩, t0 := Try.underlying0, a0 := Try.isAgg0, z0 := Try.sizeOf0, v0 := Try.zeroValue0, t3 := Try.underlying3, a3 := Try.isAgg3, z3 := Try.sizeOf3, v3 := Try.zeroValue3, t4 := Try.underlying4, a4 := Try.isAgg4, z4 := Try.sizeOf4, v4 := Try.zeroValue4, t5 := Try.underlying5, a5 := Try.isAgg5, z5 := Try.sizeOf5, v5 := Try.zeroValue5, t9 := Try.underlying9, a9 := Try.isAgg9, z9 := Try.sizeOf9, v9 := Try.zeroValue9, t22 := Try.underlying23, a22 := Try.isAgg23, z22 := Try.sizeOf23, v22 := Try.zeroValue23, t25 := Try.underlying99, a25 := Try.isAgg99, z25 := Try.sizeOf99, v25 := Try.zeroValue99, t39 := Try.underlying110, a39 := Try.isAgg110, z39 := Try.sizeOf110, v39 := Try.zeroValue110, t45 := Try.underlying113, a45 := Try.isAgg113, z45 := Try.sizeOf113, v45 := Try.zeroValue113, t46 := Try.underlying114, a46 := Try.isAgg114, z46 := Try.sizeOf114, v46 := Try.zeroValue114, t50 := Try.underlying118, a50 := Try.isAgg118, z50 := Try.sizeOf118, v50 := Try.zeroValue118, t53 := Try.underlying121, a53 := Try.isAgg121, z53 := Try.sizeOf121, v53 := Try.zeroValue121, t55 := Try.underlying123, a55 := Try.isAgg123, z55 := Try.sizeOf123, v55 := Try.zeroValue123, t66 := Try.underlying124, a66 := Try.isAgg124, z66 := Try.sizeOf124, v66 := Try.zeroValue124, t70 := Try.underlying128, a70 := Try.isAgg128, z70 := Try.sizeOf128, v70 := Try.zeroValue128, t76 := Try.underlying130, a76 := Try.isAgg130, z76 := Try.sizeOf130, v76 := Try.zeroValue130, t77 := Try.underlying131, a77 := Try.isAgg131, z77 := Try.sizeOf131, v77 := Try.zeroValue131 }

def ltN (x y : Nat × Nat) : Bool := decide (x.1 < y.1 ∨ x.1 = y.1 ∧ x.2 < y.2)
def cfN (x y : Nat × Nat) : Int := cmpE (ofN x) (ofN y)
theorem ltN_eq (x y : Nat × Nat) : ltOf cfN x y = ltN x y := by
  unfold ltOf ltN cfN cmpE cmpI ofN
  rw [decide_eq_decide]
  simp only [Prod.mk.injEq]
  repeat' split
  all_goals omega
theorem swoN : Go.Sort.SWO (ltOf cfN) where
  irrefl x := by rw [ltN_eq]; simp [ltN]
  trans x y z h1 h2 := by rw [ltN_eq] at *; simp only [ltN, decide_eq_true_eq] at *; omega
  ntrans x y z h1 h2 := by rw [ltN_eq] at *; simp only [ltN, decide_eq_false_iff_not] at *; omega
/-- Strictly increasing. -/
def Inc (l : List (Nat × Nat)) : Prop := l.Pairwise fun x y => ltN x y = true
section
variable {w w' w0 : World} {L L' F cs cs2 cs3 : List Chunk} {s s2 sb se sd : Value} {K : VK} {R : ER} {base d : List Int} {es : List (Int × Int)} {E : List (Nat × Nat)} {n f b : Nat}
theorem sort_spec (h : TS cN 39 s E cs) (H : Hp w0 w (cs ++ F)) (hl : E.length ≤ 4000) (hn : E.Nodup) :
    Calls Pg 65 ⟨[s, .func (.func 64) ⟨[]⟩ ⟨[]⟩]⟩ w fun e w' => ∃ E' cs', e = .returned (.tuple ⟨[]⟩) ∧ Hp w0 w' (cs' ++ F) ∧ TS cN 39 s E' cs' ∧ E'.Perm E ∧ Inc E' := by
  rcases Nat.eq_zero_or_pos E.length with h0 | h0
  · have hE : E = [] := List.length_eq_zero_iff.1 h0
    subst hE
    obtain ⟨p, cap, rfl⟩ : ∃ p cap, s = .slice p 0 cap := by
      rcases h with ⟨_, ⟨a, rfl⟩, _, _⟩ | ⟨b, cap, rest, _, rfl, _⟩
      · exact ⟨a, 0, rfl⟩
      · exact ⟨_, cap, rfl⟩
    refine (AnyF.slices_SortFunc_none sortE p cap (.func (.func 64) ⟨[]⟩ ⟨[]⟩) w).mono ?_
    rintro e w' ⟨rfl, rfl⟩
    exact ⟨[], cs, rfl, H, h, List.Perm.refl _, List.Pairwise.nil⟩
  · obtain ⟨b, cap, rfl, hH, hb, hpost⟩ := sort_bridge h H h0
    have hc := AnyQ.slices_SortFunc sortE 2 Try.isAgg39 Try.sizeOf39 cN.enc cN.len (fun x v hv => by simp [cN] at hv; rcases hv with rfl | rfl <;> rfl) cfN swoN 64 ⟨[]⟩ b 0 cap E.toArray w
      (enters_of Try.func64 (by kernel_rfl) rfl) (fun m os dk hs x y => by
        refine (order_spec (a := ofN x) (b := ofN y) (Hp.refl _)).mono ?_
        rintro e w' ⟨rfl, H'⟩
        exact ⟨rfl, ext_grow H'.ext⟩) hH hb (by simp; omega)
    refine Calls.mono hc ?_
    rintro e w' ⟨rfl, d', n, os, hp, hs, rfl⟩
    obtain ⟨g1, g2⟩ := permIn_all hp
    obtain ⟨cs', H', hts⟩ := hpost d' n os (by simpa using g1)
    refine ⟨d'.toList, cs', rfl, H', hts, by simpa using g2, ?_⟩
    have hpw := sortedIn_pw (lt := ltOf cfN) (d := d') (by rw [g1]; exact hs)
    have hnd : d'.toList.Nodup := g2.nodup_iff.2 (by simpa using hn)
    refine (hpw.and hnd).imp ?_
    rintro x y ⟨h1, h2⟩
    rw [ltN_eq] at h1
    simp only [ltN, decide_eq_false_iff_not, decide_eq_true_eq] at *
    have : ¬ (x.1 = y.1 ∧ x.2 = y.2) := fun h => h2 (Prod.ext h.1 h.2)
    omega
theorem Sorted_spec (h : TR cN w0 cs s E) (H : Hp w0 w (⟨b, 23, [s]⟩ :: L)) (m1 : ∀ c ∈ cs, c ∈ L) (hl : E.length ≤ 4000) (hn : E.Nodup) :
    Calls Pg 62 ⟨[.func (.func 68) ⟨[]⟩ ⟨[ptr b 0]⟩, .func (.func 64) ⟨[]⟩ ⟨[]⟩]⟩ w fun e w' => ∃ s' E' cs', e = .returned s' ∧ Hp w0 w' (cs' ++ L) ∧ TS cN 39 s' E' cs' ∧ E'.Perm E ∧ Inc E' := by
  apply F62_calls
  unfold F62
  have col : Calls Pg 67 ⟨[.func (.func 68) ⟨[]⟩ ⟨[ptr b 0]⟩]⟩ w fun e w' => ∃ s' cs', e = .returned s' ∧ Hp w0 w' (cs' ++ L) ∧ TS cN 39 s' E cs' := by
    apply F67_calls
    unfold F67
    refine cal_h (ySeq_spec h H m1 hl) ?_
    rintro _ w ⟨s', cs', rfl, H', hs⟩
    exact ⟨s', cs', rfl, H', hs⟩
  refine cal_h col ?_
  rintro _ w ⟨s', cs', rfl, H, hs⟩
  simp only [ret_k]
  refine cal_h (sort_spec hs H hl hn) ?_
  rintro _ w ⟨E', cs', rfl, H, hs, hp, hi⟩
  exact ⟨_, E', cs', rfl, H, hs, hp, hi⟩
end
end Go.Proofs.Ytagcifbfokneoaa.Den
