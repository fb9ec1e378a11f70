/- Bytes and strings: conversions; small numbers. Conditions: none. -/
import Derived.Test.YthcekppbbanfeaaGreatOt
import Derived.Laws.BytesString
set_option linter.unusedVariables false
set_option linter.unusedSimpArgs false
set_option maxRecDepth 8000
namespace Go.Proofs.YthcekppbbanfeaaGreat.Den
open Go Go.RowKit
section
variable {w w' w0 : World} {L L' F cs : List Chunk} {s : Value} {K : VK} {R : ER} {t e dst b n c : Nat} {l : List Value} {C : Cod Int} {xs : List Int}
/-- '[]byte("..")' of a constant: the bytes' block gets a mark. -/
theorem conv_bytes_h (ht : Pg.underlying t = some (.slice e)) (he : Pg.underlying e = some (.int .u8)) (H : Hp w0 w L) (hu : Upd L b (.t e) l (.f e (l.length, l.length + 1)) l L') (k : ∀ w', Hp w0 w' L' → K (.slice (some ⟨b, 0, none⟩) n c) w') :
    valV Pg R (convert t t (.slice (some ⟨b, 0, none⟩) n c)) K w := by
  have hb : w.heap[b]? = some (.cells ⟨l⟩ e (0, 0)) := (H.blk _ hu.has).2
  have hlt := heap_lt hb
  have hsh : w.shape? b = some (e, l.length) := by simp [World.shape?, hb]
  have hrun : (convert t t (.slice (some ⟨b, 0, none⟩) n c)).run Pg w = .ok (.slice (some ⟨b, 0, none⟩) n c) (w.freeze ⟨b, l.length, none⟩ 1) := by
    have h1 := fun w => run_underlying' (P := Pg) (w := w) ht
    have h2 := fun w => run_underlying' (P := Pg) (w := w) he
    simp [convert, Sem.run_bind, h1, h2, Result.andThen, markStringish, hsh]
  unfold valV; rw [hrun]
  refine k _ (H.updU hu ?_ ?_)
  · show (w.freeze ⟨b, l.length, none⟩ 1).heap[b]? = some (Obj.cells ⟨l⟩ e (l.length, l.length + 1))
    unfold World.freeze
    rw [if_neg (by decide)]
    simp [Array.getElem?_modify, hb]
  · refine ⟨rfl, rfl, rfl, by simp [World.freeze], fun k hk hn => ?_, Nat.le_refl _⟩
    unfold World.freeze
    rw [if_neg (by decide)]
    simp only [Array.getElem?_modify]
    rw [if_neg (by simpa using Ne.symm (by simpa using hn))]
def strOf (xs : List Int) : ByteArray := xs.foldl (fun r n => r.push (UInt8.ofNat n.toNat)) ByteArray.empty
/-- 'string(b)'. -/
theorem conv_str_h (ht : Pg.underlying t = some (.slice e)) (he : Pg.underlying e = some (.int .u8)) (hd : Pg.underlying dst = some .string) (hC : C.sz = 1 ∧ ∀ n, C.enc n = [U8 n]) (h : TR C w0 cs s xs) (H : Hp w0 w L) (hs : ∀ c ∈ cs, c ∈ L) (k : K (.string (strOf xs)) w) :
    valV Pg R (convert t dst s) K w := by
  have hr := h.rd H hs
  rw [hC.1] at hr
  have hall : C.all xs = xs.map fun n => U8 n := by
    unfold Cod.all
    clear h k hr
    induction xs with
    | nil => rfl
    | cons a l ih => simp [hC.2, ih]
  have hrun : (convert t dst s).run Pg w = .ok (.string (strOf xs)) w := by
    rcases hr with ⟨c, rfl, h0, h1⟩ | ⟨a, c, rfl, hmc, h1⟩
    · rw [run_convert_bytes_string w t dst e none _ c ht he hd]
      have : xs = [] := List.length_eq_zero_iff.1 (by omega)
      subst this
      rfl
    · rw [run_convert_bytes_string w t dst e (some a) _ c ht he hd]
      refine run_bytesToString w a _ c xs ?_
      have := run_loadCells (P := Pg) (w := w) (a := a) (xs.length * 1) 0 #[] _ h1
      rw [hall] at this
      simpa [loadCells] using this
  unfold valV; rw [hrun]; exact k
theorem wrap8_id {a : Int} (h1 : 0 ≤ a) (h2 : a ≤ 255) : IntKind.u8.wrap a = a := by
  have e1 : (2 ^ IntKind.u8.bits : Int) = 256 := by decide
  simp only [IntKind.wrap, e1, IntKind.signed, Bool.false_and]
  rw [if_neg (by decide)]; omega
theorem cv8_a {k : IntKind} {a : Int} (g : K (U8 a) w) (h1 : 0 ≤ a := by omega) (h2 : a ≤ 255 := by omega) : pv (cvI .u8 (.int k a)) K w := by
  have : cvI .u8 (.int k a) = some (U8 (IntKind.u8.wrap a)) := rfl
  rw [this, pv_some, wrap8_id h1 h2]; exact g
theorem cv64_a {k : IntKind} {a : Int} (g : K (I a) w) (h1 : -9223372036854775808 ≤ a := by omega) (h2 : a ≤ 9223372036854775807 := by omega) : pv (cvI .i64 (.int k a)) K w := by
  have : cvI .i64 (.int k a) = some (I (IntKind.i64.wrap a)) := rfl
  rw [this, pv_some, wrap64_id h1 h2]; exact g
end
end Go.Proofs.YthcekppbbanfeaaGreat.Den
