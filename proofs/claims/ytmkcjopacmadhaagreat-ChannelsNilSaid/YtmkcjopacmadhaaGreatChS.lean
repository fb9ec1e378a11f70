/- Pointers compared, slices that may overlap, in chunks. Conditions: none. -/
import Derived.Test.YtmkcjopacmadhaaGreatChH
import Derived.Lib.Overlaps
import Derived.LaidEqlPtr
set_option linter.unusedVariables false
set_option linter.unusedSimpArgs false
set_option maxRecDepth 8000
namespace Go.Proofs.YtmkcjopacmadhaaGreat.Den
open Go Go.RowKit
section
variable {w w' w0 : World} {L L' F : List Chunk} {K : VK} {R : ER} {a b : Nat} {la lb : List Value} {ta tb t e : TypeId} {x y : Operand}
theorem eqP_h {sz : Nat} (ht : Pg.underlying t = some (.pointer e)) (he : (Pg.info? e).map (·.size) = some sz) (hz : sz ≠ 0) (H : Hp w0 w L) (h1 : Has L a (.t ta) la) (h2 : Has L b (.t tb) lb) (k : K (.bool (decide (a = b))) w) :
    eqK Pg R .eql t x y (ptr a 0) (ptr b 0) K w := by
  obtain ⟨j, hj, hs⟩ : ∃ j, Pg.info? e = some j ∧ j.size = sz := by
    cases h : Pg.info? e with
    | none => simp [h] at he
    | some j => exact ⟨j, rfl, by simpa [h] using he⟩
  have hrun : (do eqGuard .eql t x y (ptr a 0) (ptr b 0); binOp .eql t (ptr a 0) (ptr b 0) : Sem Value).run Pg w = .ok (.bool (decide (a = b))) w := by
    have h0 : (eqGuard .eql t x y (ptr a 0) (ptr b 0)).run Pg w = .ok () w := by simp [eqGuard]
    rw [Sem.run_bind, h0, Result.andThen_ok]
    by_cases h : a = b
    · subst h
      rw [run_eql_ptr_same w _ ht hj]; simp
    · rw [run_eql_ptr_other w ht hj (by rw [hs]; exact hz) (by simp [h]) (H.bl h1) (H.bl h2)]
      simp [h]
  unfold eqK valV
  rw [hrun]; exact k
/-- Two slices in two blocks do not overlap. -/
theorem ovl_h {f : Nat} {fn : Func} {tS tR el size vo m vc o n c : Nat} (hf : Pg.funcs[f]? = some fn) (hok : enterOk Pg f = false) (hname : (fn.name == "runtime.NumGoroutine") = false) (hb : fn.body.isNone = true) (hn : Extern.findNext fn = none) (he : Extern.find fn = some (Extern.SlicesOverlaps.overlaps #[tS, tS] #[tR]))
    (ht : Pg.underlying tS = some (.slice el)) (hz : ∀ w, (Go.sizeOf el).run Pg w = .ok size w) (H : Hp w0 w L) (h1 : Has L a (.t ta) la) (h2 : Has L b (.t tb) lb) (hne : a ≠ b) (hlb : lb ≠ []) (k : K (.bool false) w) :
    calD Pg R (.func (.func f) ⟨[]⟩ ⟨[]⟩) ⟨[.slice (some ⟨a, vo, none⟩) m vc, .slice (some ⟨b, o, none⟩) n c]⟩ K w := by
  have hrun := run_callFunc_extern (P := Pg) hf hname hb hn he #[.slice (some ⟨a, vo, none⟩) m vc, .slice (some ⟨b, o, none⟩) n c] w
  have hsh : ∀ {b : Nat} {t : TypeId} {l : List Value}, Has L b (.t t) l → w.shape? b = some (t, l.length) := by
    intro b t l h
    have := H.bl h
    unfold Blk at this
    simp [World.shape?, this]
  rw [Lib.run_overlaps_apart w tS tR el ht size hz ⟨a, vo, none⟩ ⟨b, o, none⟩ m vc n c hne ta tb la.length lb.length (hsh h1) (hsh h2) (by cases lb <;> simp_all) ((H.bl h1).frozen _) ((H.bl h1).frozen _)] at hrun
  unfold calD
  simp only [hok, cond_false]
  unfold semV
  have : (do let d ← Deferred.ofValue (.func (.func f) ⟨[]⟩ ⟨[]⟩) ⟨[.slice (some ⟨a, vo, none⟩) m vc, .slice (some ⟨b, o, none⟩) n c]⟩; invoke d.target d.args : Sem Next).run Pg w = .ok (.value (.bool false)) w := by
    simp [Deferred.ofValue, invoke]
    exact hrun
  rw [this]; exact k
end
end Go.Proofs.YtmkcjopacmadhaaGreat.Den
