/- Keys that are structs of plain cells may be keys. Conditions: none. -/
import Derived.Test.YtmmbepdghpjgeaaOm
set_option linter.unusedVariables false
set_option linter.unusedSimpArgs false
namespace Go.Proofs.Ytmmbepdghpjgeaa.Den
open Go
section
variable {P : Program} {w : World}
theorem s_checkKey (em : Bool) : ∀ (d t : Nat) (ks : List Nat), leaves P d t = some ks → ∀ n, d ≤ n →
    (isAggO P t = some false → ∀ v w, (Instr.checkKey em n t v).run P w = .ok () w) ∧
    (isAggO P t = some true → ∀ (xs : Array Value) w, xs.size = ks.length → (Instr.checkKey em n t (.agg xs)).run P w = .ok () w)
  | 0, t, ks, h, n, hn => by simp [leaves] at h
  | d + 1, t, ks, h, n, hn => by
    obtain ⟨n, rfl⟩ : ∃ m, n = m + 1 := ⟨n - 1, by omega⟩
    unfold leaves at h
    split at h
    · rename_i k hu
      have ha := isAggO_leaf hu (by simp) (by simp)
      refine ⟨fun _ v w => ?_, fun h => by rw [ha] at h; cases h⟩
      simp [Instr.checkKey, Sem.run_bind, run_underlying' hu, Result.andThen]
    · rename_i hu
      have ha := isAggO_leaf hu (by simp) (by simp)
      refine ⟨fun _ v w => ?_, fun h => by rw [ha] at h; cases h⟩
      simp [Instr.checkKey, Sem.run_bind, run_underlying' hu, Result.andThen]
    · rename_i hu
      have ha := isAggO_leaf hu (by simp) (by simp)
      refine ⟨fun _ v w => ?_, fun h => by rw [ha] at h; cases h⟩
      simp [Instr.checkKey, Sem.run_bind, run_underlying' hu, Result.andThen]
    · rename_i fs hu
      have hag : isAggO P t = some true := by unfold isAggO; rw [hu]
      refine ⟨fun h => (by rw [hag] at h; cases h), fun _ xs w hsz => ?_⟩
      cases hst : P.stoodInHeld t with
      | true => simp [hst] at h
      | false =>
        simp only [hst, cond_false] at h
        rw [Instr.checkKey, Sem.run_bind, run_underlying' hu]
        simp only [Result.andThen]
        rw [← Array.forIn_toList]
        have key : ∀ (fs : List Field) (off : Nat) (ks : List Nat), leavesF P (leaves P d) off fs = some ks → off + ks.length = xs.size → (forIn fs PUnit.unit fun f (r : PUnit) =>
            if f.name ≠ "_" then (do
              let a ← part f.type xs f.offset
              Instr.checkKey em n f.type a
              pure (ForInStep.yield PUnit.unit))
            else pure (ForInStep.yield PUnit.unit) : Sem PUnit).run P w = .ok () w := by
          intro fs
          induction fs with
          | nil => intro off ks h hb; rfl
          | cons f fs ih =>
            intro off ks h hb
            simp only [leavesF] at h
            cases hc : (f.name == "_" || !(Nat.beq f.offset off)) with
            | true => simp [hc] at h
            | false =>
              simp only [hc, cond_false] at h
              simp only [Bool.or_eq_false_iff, beq_eq_false_iff_ne, Bool.not_eq_false'] at hc
              obtain ⟨hc1, hc2⟩ := hc
              have hoff : f.offset = off := Nat.eq_of_beq_eq_true hc2
              split at h
              · rename_i l s h1 h2
                cases hls : Nat.beq l.length s with
                | false => simp [hls] at h
                | true =>
                  simp only [hls, cond_true] at h
                  have hls' : l.length = s := Nat.eq_of_beq_eq_true hls
                  split at h
                  · rename_i r h3
                    injection h with h; subst h
                    simp only [List.length_append] at hb
                    have ihr := ih (off + s) r h3 (by omega)
                    have he := s_checkKey em d f.type l h1 n (by omega)
                    have step : ∃ a, (part f.type xs f.offset).run P w = .ok a w ∧ (Instr.checkKey em n f.type a).run P w = .ok () w := by
                      cases hag : isAggO P f.type with
                      | none =>
                        exfalso
                        unfold leaves at h1
                        cases d with
                        | zero => simp at h1
                        | succ d =>
                          unfold isAggO at hag
                          split at hag
                          · cases hag
                          · cases hag
                          · cases hag
                          · rename_i hn; simp only [hn] at h1; cases h1
                      | some ag =>
                        cases ag with
                        | true =>
                          refine ⟨_, s_partN hag h2, he.2 hag _ w ?_⟩
                          simp; omega
                        | false =>
                          obtain ⟨k, rfl, _⟩ := (s_equalIn (P := P) d f.type l h1 d (Nat.le_refl _)).1 hag
                          simp only [List.length_cons, List.length_nil] at hb
                          simp only [List.length_singleton] at hls'
                          exact ⟨_, s_part1 hag (by rw [hoff]; exact Array.getElem?_eq_getElem (by omega)), he.1 hag _ w⟩
                    obtain ⟨a, s1, s2⟩ := step
                    rw [List.forIn_cons, Sem.run_bind]
                    simp only [ne_eq, hc1, not_false_eq_true, if_true, Sem.run_bind, s1, s2, Result.andThen_ok, Sem.run_pure]
                    exact ihr
                  · cases h
              · cases h
        have := key fs.toList 0 ks h (by omega)
        rw [Sem.run_bind]
        exact (congrArg (fun r => Result.andThen r fun _ w' => Sem.run P (pure ()) w') this)
    · cases h
end
/-- A map whose keys are structs of plain cells. -/
theorem MapK.agg {κ ν : Type} [DecidableEq κ] {T kt et : TypeId} {fs : Array Field} {cells : κ → List Value} {val : ν → Value} {z : ν} {ks : List Nat} (h1 : Pg.underlying T = some (.map kt et)) (h2 : Pg.underlying kt = some (.struct fs)) (h3 : (Pg.info? et).bind (·.zero) = some (val z))
    (h4 : leaves Pg 20 kt = some ks) (h5 : ∀ x, (cells x).length = ks.length) (h6 : ∀ x y, eqCells ks (cells x) (cells y) = some (decide (x = y))) (h7 : ∀ x, Instr.sameBits 10000 (.agg ⟨cells x⟩) (.agg ⟨cells x⟩) = true) :
    MapK T kt et (.struct fs) (fun x => .agg ⟨cells x⟩) val z :=
  ⟨h1, h2, h3, fun x y w => s_equalAgg h2 h4 (h6 x y) w, fun b x w => (s_checkKey b 20 kt ks h4 10000 (by omega)).2 (by unfold isAggO; rw [h2]) _ w (h5 x), .inr fun x y => rfl, h7⟩
end Go.Proofs.Ytmmbepdghpjgeaa.Den
