/- That what the denotation asks of one operation is what the model asks of it. Conditions: none. -/
import Derived.Test.YthcekppbbanfeaaGreatDenSound1
import Derived.Laws.StructEq
set_option linter.unusedVariables false
set_option linter.unusedSimpArgs false
namespace Go.Proofs.YthcekppbbanfeaaGreat.Den
open Go
section
variable {P : Program} {w : World}
theorem eqCells_app : ∀ {l r : List Nat} {xs ys : List Value} {b : Bool}, eqCells (l ++ r) xs ys = some b → ∃ b1 b2, eqCells l (xs.take l.length) (ys.take l.length) = some b1 ∧ eqCells r (xs.drop l.length) (ys.drop l.length) = some b2 ∧ b = (b1 && b2)
  | [], r, xs, ys, b, h => ⟨true, b, by simp [eqCells], by simpa using h, by simp⟩
  | k :: l, r, xs, ys, b, h => by
    cases xs with
    | nil => simp [eqCells] at h
    | cons x xs =>
      cases ys with
      | nil => simp [eqCells] at h
      | cons y ys =>
        simp only [List.cons_append, eqCells] at h
        split at h
        · rename_i a c h1 h2
          obtain ⟨b1, b2, g1, g2, g3⟩ := eqCells_app h2
          injection h with h
          refine ⟨a && b1, b2, by simp [eqCells, h1, g1], by simpa using g2, by rw [← h, g3, Bool.and_assoc]⟩
        · cases h
theorem eqCells_len : ∀ {l : List Nat} {xs ys : List Value} {b : Bool}, eqCells l xs ys = some b → xs.length = l.length ∧ ys.length = l.length
  | [], xs, ys, b, h => by cases xs <;> cases ys <;> simp [eqCells] at h ⊢
  | k :: l, xs, ys, b, h => by
    cases xs with
    | nil => simp [eqCells] at h
    | cons x xs =>
      cases ys with
      | nil => simp [eqCells] at h
      | cons y ys =>
        simp only [eqCells] at h
        split at h
        · rename_i a c h1 h2
          have := eqCells_len h2
          simp [this.1, this.2]
        · cases h
theorem isAggO_leaf {t : Nat} {d : TypeDesc} (hu : P.underlying t = some d) (h1 : ∀ fs, d ≠ .struct fs) (h2 : ∀ n e, d ≠ .array n e) : isAggO P t = some false := by
  unfold isAggO; rw [hu]
  cases d <;> first | rfl | exact absurd rfl (h1 _) | exact absurd rfl (h2 _ _)
theorem s_equalIn : ∀ (d t : Nat) (ks : List Nat), leaves P d t = some ks → ∀ n, d ≤ n →
    (isAggO P t = some false → ∃ k, ks = [k] ∧ ∀ x y b w, eqLeaf k x y = some b → (Op.equalIn n t x y).run P w = .ok b w) ∧
    (isAggO P t = some true → ∀ (xs ys : Array Value) b w, eqCells ks xs.toList ys.toList = some b → (Op.equalIn n t (.agg xs) (.agg ys)).run P w = .ok b w)
  | 0, t, ks, h, n, hn => by simp [leaves] at h
  | d + 1, t, ks, h, n, hn => by
    obtain ⟨n, rfl⟩ : ∃ m, n = m + 1 := ⟨n - 1, by omega⟩
    unfold leaves at h
    split at h
    · rename_i k hu
      injection h with h; subst h
      have ha := isAggO_leaf hu (by simp) (by simp)
      refine ⟨fun _ => ⟨0, rfl, fun x y b w hb => ?_⟩, fun h => by rw [ha] at h; cases h⟩
      cases x <;> cases y <;> simp only [eqLeaf, reduceCtorEq] at hb
      split at hb
      · rename_i hk; injection hb with hb; subst hk; subst hb
        simp [Op.equalIn, Sem.run_bind, run_underlying' hu, Result.andThen]
      · cases hb
    · rename_i hu
      injection h with h; subst h
      have ha := isAggO_leaf hu (by simp) (by simp)
      refine ⟨fun _ => ⟨1, rfl, fun x y b w hb => ?_⟩, fun h => by rw [ha] at h; cases h⟩
      cases x <;> cases y <;> simp only [eqLeaf, reduceCtorEq] at hb
      injection hb with hb; subst hb
      simp [Op.equalIn, Sem.run_bind, run_underlying' hu, Result.andThen]
    · rename_i hu
      injection h with h; subst h
      have ha := isAggO_leaf hu (by simp) (by simp)
      refine ⟨fun _ => ⟨2, rfl, fun x y b w hb => ?_⟩, fun h => by rw [ha] at h; cases h⟩
      cases x <;> cases y <;> simp only [eqLeaf, reduceCtorEq] at hb
      injection hb with hb; subst hb
      simp [Op.equalIn, Sem.run_bind, run_underlying' hu, Result.andThen]
    · rename_i fs hu
      have hag : isAggO P t = some true := by unfold isAggO; rw [hu]
      refine ⟨fun h => (by rw [hag] at h; cases h), fun _ xs ys b w hb => ?_⟩
      cases hst : P.stoodInHeld t with
      | true => simp [hst] at h
      | false =>
        simp only [hst, cond_false] at h
        have hfo : P.fieldsOf t = fs := by unfold Program.fieldsOf; rw [hu]
        rw [run_equalIn_struct w n t xs ys (by rw [hfo]; exact hu) hst, hfo]
        have key : ∀ (fs : List Field) (off : Nat) (ks : List Nat) (b : Bool), leavesF P (leaves P d) off fs = some ks → eqCells ks (xs.toList.drop off) (ys.toList.drop off) = some b → (Op.eqFields n xs ys fs).run P w = .ok b w := by
          intro fs
          induction fs with
          | nil =>
            intro off ks b h hb
            simp only [leavesF, Option.some.injEq] at h; subst h
            have hl := eqCells_len hb
            have hx : xs.toList.drop off = [] := List.length_eq_zero_iff.1 hl.1
            have hy : ys.toList.drop off = [] := List.length_eq_zero_iff.1 hl.2
            rw [hx, hy] at hb
            simp only [eqCells, Option.some.injEq] at hb; subst hb
            simp [Op.eqFields]
          | cons f fs ih =>
            intro off ks b h hb
            simp only [leavesF] at h
            cases hc : (f.name == "_" || !(Nat.beq f.offset off)) with
            | true => simp [hc] at h
            | false =>
              simp only [hc, cond_false] at h
              simp only [Bool.or_eq_false_iff, beq_eq_false_iff_ne, Bool.not_eq_false'] at hc
              obtain ⟨hc1, hc2⟩ := hc
              have hoff : f.offset = off := Nat.eq_of_beq_eq_true hc2
              split at h
              · rename_i l s h1 h2
                cases hls : Nat.beq l.length s with
                | false => simp [hls] at h
                | true =>
                  simp only [hls, cond_true] at h
                  have hls' : l.length = s := Nat.eq_of_beq_eq_true hls
                  split at h
                  · rename_i r h3
                    injection h with h; subst h
                    obtain ⟨b1, b2, g1, g2, rfl⟩ := eqCells_app hb
                    rw [List.drop_drop, List.drop_drop, hls'] at g2
                    have ihr := ih (off + s) r b2 h3 g2
                    have he := s_equalIn d f.type l h1 n (by omega)
                    have hlen := eqCells_len hb
                    simp only [List.length_drop, List.length_append, hls'] at hlen
                    have step : ∃ a c, (part f.type xs f.offset).run P w = .ok a w ∧ (part f.type ys f.offset).run P w = .ok c w ∧ (Op.equalIn n f.type a c).run P w = .ok b1 w := by
                      cases hag : isAggO P f.type with
                      | none =>
                        exfalso
                        unfold leaves at h1
                        cases d with
                        | zero => simp at h1
                        | succ d =>
                          unfold isAggO at hag
                          split at hag
                          · cases hag
                          · cases hag
                          · cases hag
                          · rename_i hn; simp only [hn] at h1; cases h1
                      | some ag =>
                        cases ag with
                        | true =>
                          refine ⟨_, _, s_partN hag h2, s_partN hag h2, he.2 hag _ _ b1 w ?_⟩
                          rw [hoff]
                          have e : ∀ zs : Array Value, (zs.extract off (off + s)).toList = (zs.toList.drop off).take s := by
                            intro zs; simp [Array.toList_extract, List.extract_eq_take_drop]
                          rw [e, e, ← hls']; exact g1
                        | false =>
                          obtain ⟨k, rfl, he'⟩ := he.1 hag
                          have hs1 : s = 1 := by simpa using hls'.symm
                          subst hs1
                          obtain ⟨a, ha⟩ : ∃ a, xs.toList[off]? = some a := ⟨_, List.getElem?_eq_getElem (by omega)⟩
                          obtain ⟨c, hc⟩ : ∃ c, ys.toList[off]? = some c := ⟨_, List.getElem?_eq_getElem (by omega)⟩
                          refine ⟨a, c, s_part1 hag (by rw [hoff]; simpa using ha), s_part1 hag (by rw [hoff]; simpa using hc), he' a c b1 w ?_⟩
                          have e : ∀ (zs : List Value) (z : Value), zs[off]? = some z → (zs.drop off).take [k].length = [z] := by
                            intro zs z hz
                            obtain ⟨hlt, hz⟩ := List.getElem?_eq_some_iff.1 hz
                            rw [List.drop_eq_getElem_cons hlt, hz]; rfl
                          rw [e _ _ ha, e _ _ hc] at g1
                          simp only [eqCells] at g1
                          split at g1
                          · rename_i p q g3 g4
                            simp only [Option.some.injEq] at g4
                            injection g1 with g1
                            rw [g3, ← g1, ← g4]; simp
                          · cases g1
                    obtain ⟨a, c, s1, s2, s3⟩ := step
                    simp only [Op.eqFields, ne_eq, hc1, not_false_eq_true, if_true, Sem.run_bind, s1, s2, s3, Result.andThen]
                    cases b1 with
                    | true => simpa using ihr
                    | false => simp
                  · cases h
              · cases h
        exact key fs.toList 0 ks b h (by simpa using hb)
    · cases h
theorem s_equalAgg {t : Nat} {ks : List Nat} {xs ys : Array Value} {b : Bool} {fs : Array Field} (hu : P.underlying t = some (.struct fs)) (h : leaves P 20 t = some ks) (hb : eqCells ks xs.toList ys.toList = some b) (w : World) :
    (Op.equalIn 10000 t (.agg xs) (.agg ys)).run P w = .ok b w :=
  (s_equalIn 20 t ks h 10000 (by omega)).2 (by unfold isAggO; rw [hu]) xs ys b w hb
theorem s_binFn {op : BinOp} {t : Nat} {x y : Operand} {e : Env} {f : Env → Option Value} {v : Value} (hf : binFn P op t x y = some f) (hv : f e = some v) :
    (do eqGuard op t x y (ev e x) (ev e y); binOp op t (ev e x) (ev e y) : Sem Value).run P w = .ok v w := by
  unfold binFn at hf
  split at hf
  · injection hf with hf; subst hf
    obtain ⟨h1, h2⟩ := bin_fst hv
    rw [Sem.run_bind, s_eqGuardI h1 h2]; exact s_binI hv
  · rename_i hu
    injection hf with hf; subst hf
    obtain ⟨h1, h2⟩ := binB_fst hv
    rw [Sem.run_bind, s_eqGuardI h1 h2]; exact s_binB hu hv
  · injection hf with hf; subst hf
    obtain ⟨h1, h2⟩ := binS_fst hv
    rw [Sem.run_bind, s_eqGuardI h1 h2]; exact s_binS hv
  · rename_i el hu
    split at hf
    · injection hf with hf; subst hf
      have h1 : ev e x ≠ .nilIface ∧ ∀ cs, ev e x ≠ .agg cs := by
        have hv' : eqNilP (ev e x) = some v := hv
        unfold eqNilP at hv'; split at hv'
        · rename_i h; simp [h]
        · cases hv'
      rw [Sem.run_bind, s_eqGuardI h1.1 h1.2]; exact s_eqNil hu hv
    · injection hf with hf; subst hf
      have h1 : ev e x ≠ .nilIface ∧ ∀ cs, ev e x ≠ .agg cs := by
        have hv' : neNilP (ev e x) = some v := hv
        unfold neNilP at hv'; split at hv'
        · rename_i h; simp [h]
        · cases hv'
      rw [Sem.run_bind, s_eqGuardI h1.1 h1.2]; exact s_neNil hu hv
    · cases hf
  · rename_i el hu
    split at hf
    · injection hf with hf; subst hf
      have h1 : ev e x ≠ .nilIface ∧ ∀ cs, ev e x ≠ .agg cs := by
        have hv' : eqNilS (ev e x) = some v := hv
        unfold eqNilS at hv'; split at hv'
        · rename_i h; simp [h]
        · cases hv'
      rw [Sem.run_bind, s_eqGuardI h1.1 h1.2]; exact s_eqNilS hu hv
    · injection hf with hf; subst hf
      have h1 : ev e x ≠ .nilIface ∧ ∀ cs, ev e x ≠ .agg cs := by
        have hv' : neNilS (ev e x) = some v := hv
        unfold neNilS at hv'; split at hv'
        · rename_i h; simp [h]
        · cases hv'
      rw [Sem.run_bind, s_eqGuardI h1.1 h1.2]; exact s_neNilS hu hv
    · cases hf
  · rename_i fs hu
    split at hf
    · rename_i ks hl hg
      split at hf
      · injection hf with hf; subst hf
        have hv' : eqAgg ks (ev e x) (ev e y) = some v := hv
        unfold eqAgg at hv'; split at hv'
        · rename_i xs ys hx hy
          split at hv'
          · rename_i b hb
            injection hv' with hv'; subst hv'
            rw [hx, hy, Sem.run_bind, run_eqGuard_agg w _ t x y xs ys hg, Result.andThen_ok, run_eql_struct, s_equalAgg hu hl hb]; rfl
          · cases hv'
        · cases hv'
      · injection hf with hf; subst hf
        have hv' : neAgg ks (ev e x) (ev e y) = some v := hv
        unfold neAgg at hv'; split at hv'
        · rename_i xs ys hx hy
          split at hv'
          · rename_i b hb
            injection hv' with hv'; subst hv'
            rw [hx, hy, Sem.run_bind, run_eqGuard_agg w _ t x y xs ys hg, Result.andThen_ok, run_neq_struct, s_equalAgg hu hl hb]; rfl
          · cases hv'
        · cases hv'
      · cases hf
    · cases hf
  · cases hf
theorem run_v {s : Sem Value} {v : Value} (h : s.run P w = .ok v w) : (do pure (Next.value (← s)) : Sem Next).run P w = .ok (.value v) w := run_value h
theorem s_nil {x v : Value} (h : nilO x = some v) (o : Oper) (e : Env) (y : Operand) (ho : o.op = .nilCheck y) (hx : ev e y = x) : (execOp (ev e) o).run P w = .ok (.value v) w := by
  obtain ⟨dst, op, type, pos, after, guard⟩ := o
  dsimp only at ho; subst ho
  unfold nilO at h
  split at h <;> first | (cases h; done) | (injection h with h; subst h; simp only [execOp, hx]; rfl)
theorem exec_builtin {o : Oper} {c : Call} {b : Builtin} {ρ : Operand → Value} (ho : o.op = .call c) (hc : c.callee = .builtin b) :
    execOp ρ o = builtin b c.argTypes o.type (c.args.map fun | .const _ => true | _ => false) (c.args.map ρ) := by
  unfold execOp
  rw [ho]
  simp only [resolve, hc, invoke]
  rfl
theorem pureFn_sound {o : Oper} {e : Env} {f : Env → Option Value} {v : Value} (hf : pureFn P o.op = some f) (hv : f e = some v) :
    (execOp (ev e) o).run P w = .ok (.value v) w := by
  obtain ⟨dst, op, type, pos, after, guard⟩ := o
  dsimp only at hf
  unfold pureFn at hf
  split at hf
  case h_1 x => injection hf with hf; subst hf; injection hv with hv; subst hv; rfl
  case h_2 x => injection hf with hf; subst hf; injection hv with hv; subst hv; rfl
  case h_3 c a b =>
    injection hf with hf; subst hf
    have hv' : pickO (ev e c) (ev e a) (ev e b) = some v := hv
    unfold pickO at hv'
    split at hv'
    · rename_i t ht; injection hv' with hv'; subst hv'; simp only [execOp, ht]; cases t <;> rfl
    · cases hv'
  case h_4 x => injection hf with hf; subst hf; exact s_nil hv _ e x rfl rfl
  case h_5 t x fi =>
    split at hf
    · rename_i fs hu
      split at hf
      · rename_i fd hfd
        split at hf
        · rename_i s hs; injection hf with hf; subst hf; exact run_v (s_fieldAddr hu hfd hs hv)
        · cases hf
      · cases hf
    · cases hf
  case h_6 t x i =>
    split at hf
    · rename_i n el hu
      split at hf
      · rename_i s hs; injection hf with hf; subst hf; exact run_v (s_indexA hu hs hv)
      · cases hf
    · rename_i el hu
      split at hf
      · rename_i s hs; injection hf with hf; subst hf; exact run_v (s_indexS hu hs hv)
      · cases hf
    · cases hf
  case h_7 t x i =>
    split at hf
    · rename_i hu; injection hf with hf; subst hf; exact run_v (s_ixStr hu hv)
    · rename_i n el hu
      split at hf
      · rename_i s ha hs; injection hf with hf; subst hf; exact run_v (s_ixVN hu ha hs hv)
      · rename_i ha hs; injection hf with hf; subst hf; exact run_v (s_ixV1 hu ha hs hv)
      · cases hf
    · cases hf
  case h_8 t x fi =>
    split at hf
    · rename_i fs hu
      split at hf
      · rename_i fd hfd
        split at hf
        · rename_i s ha hs; injection hf with hf; subst hf; exact run_v (s_fieldN hu hfd ha hs hv)
        · rename_i s ha hs; injection hf with hf; subst hf; exact run_v (s_field1 hu hfd ha hv)
        · cases hf
      · cases hf
    · cases hf
  case h_9 op t x y u => exact run_v (s_binFn hf hv)
  case h_10 op t x => injection hf with hf; subst hf; exact run_v (s_unary hv)
  case h_11 s d x =>
    split at hf
    · rename_i k0 k hs hd; injection hf with hf; subst hf; exact run_v (s_convert hs hd hv)
    · cases hf
  case h_12 t x =>
    split at hf
    · cases hf
    · rename_i d hn hd
      injection hf with hf; subst hf; injection hv with hv; subst hv
      refine run_v ?_
      rw [Instr.makeInterface, Sem.run_bind, run_underlying' hd]
      cases d <;> first | rfl | exact absurd rfl (hn _)
    · cases hf
  case h_13 fn first captured => injection hf with hf; subst hf; injection hv with hv; subst hv; rw [amap_eq, amap_eq]; rfl
  case h_14 x i =>
    injection hf with hf; subst hf
    have hv' : extO i (ev e x) = some v := hv
    unfold extO at hv'
    split at hv'
    · rename_i vs hx; refine run_v ?_; simp only [hx, Instr.extract, hv']; rfl
    · cases hv'
  case h_15 t parts =>
    split at hf
    · rename_i z l hz hl hs; injection hf with hf; subst hf; exact run_v (s_build hz hl hs hv)
    · cases hf
  case h_16 t x lo hi =>
    split at hf
    · rename_i el hu
      split at hf
      · rename_i s hs; injection hf with hf; subst hf; exact run_v (s_slS hu hs hv)
      · cases hf
    · rename_i n el hu
      split at hf
      · rename_i s hs; injection hf with hf; subst hf; exact run_v (s_slA hu hs hv)
      · cases hf
    · rename_i hu; injection hf with hf; subst hf; exact run_v (s_slStr hu hv)
    · cases hf
  case h_17 x t =>
    rw [exec_builtin (b := .len) rfl rfl]
    simp only [List.map_toArray, List.map_cons, List.map_nil, builtin]
    change Sem.run P (do pure (Next.value (← Builtin.len_ #[t] type #[ev e x]))) w = _
    split at hf
    · rename_i el hu; injection hf with hf; subst hf; exact run_v (s_lenS hu hv)
    · rename_i hu; injection hf with hf; subst hf; exact run_v (s_lenStr hu hv)
    · rename_i n el hu; injection hf with hf; subst hf; injection hv with hv; subst hv; exact run_v (s_lenA hu)
    · cases hf
  case h_18 x y t u =>
    rw [exec_builtin (b := .min) rfl rfl]
    simp only [List.map_toArray, List.map_cons, List.map_nil, builtin]
    change Sem.run P (do pure (Next.value (← Builtin.min_ #[t, u] type #[ev e x, ev e y]))) w = _
    split at hf
    · injection hf with hf; subst hf; exact run_v (s_min hv)
    · cases hf
  case h_19 x y t u =>
    rw [exec_builtin (b := .max) rfl rfl]
    simp only [List.map_toArray, List.map_cons, List.map_nil, builtin]
    change Sem.run P (do pure (Next.value (← Builtin.max_ #[t, u] type #[ev e x, ev e y]))) w = _
    split at hf
    · injection hf with hf; subst hf; exact run_v (s_max hv)
    · cases hf
  case h_20 t x =>
    split at hf
    · rename_i n el hu; injection hf with hf; subst hf; exact run_v (s_arr hu hv)
    · cases hf
  case h_21 => cases hf

theorem stab_imp {a : Addr} {c : Value} {G : Prop} : ∀ {ws : List World}, stab ws a c G → G
  | [], h => h
  | _ :: ws, h => stab_imp h.2
theorem stabN_imp {a : Addr} {n : Nat} {c : List Value} {G : Prop} : ∀ {ws : List World}, stabN ws a n c G → G
  | [], h => h
  | _ :: ws, h => stabN_imp h.2
theorem run_load1 {a : Addr} {c : Value} (h : w.cell? a = some c) : (load a).run P w = .ok c w := by
  simp [load, Sem.run, h]
theorem run_loadCells {a : Addr} : ∀ (n i : Nat) (acc : Array Value) (l : List Value), cellsAt w a i n = some l → (loadCellsFrom a i n acc).run P w = .ok (acc ++ l.toArray) w
  | 0, i, acc, l, h => by simp only [cellsAt] at h; injection h with h; subst h; simp [loadCellsFrom]
  | n + 1, i, acc, l, h => by
    simp only [cellsAt] at h
    split at h
    · rename_i c hc
      split at h
      · rename_i l' hl'; injection h with h; subst h
        simp only [loadCellsFrom]
        rw [Sem.run_bind, run_load1 hc]
        simp only [Result.andThen]
        rw [run_loadCells n (i + 1) _ l' hl']
        simp
      · cases h
    · cases h
theorem s_load1 {t : Nat} {a : Addr} {c : Value} (ha : isAggO P t = some false) (h : w.cell? a = some c) : (Instr.loadAt t (.pointer (some a))).run P w = .ok c w := by
  rw [Instr.loadAt, Sem.run_bind, run_sureAddr]
  simp only [Result.andThen, loadVar, Sem.run_bind, run_isAgg' ha]
  exact run_load1 h
theorem s_loadN {t n : Nat} {a : Addr} {l : List Value} (ha : isAggO P t = some true) (hs : szO P t = some n) (h : cellsAt w a 0 n = some l) :
    (Instr.loadAt t (.pointer (some a))).run P w = .ok (.agg l.toArray) w := by
  rw [Instr.loadAt, Sem.run_bind, run_sureAddr]
  simp only [Result.andThen, loadVar, Sem.run_bind, run_isAgg' ha, if_true, run_sizeOf' hs, loadCells]
  rw [run_loadCells n 0 #[] l h]
  simp [Result.andThen]
theorem ldK_spec {ws : List World} {t : Nat} {v : Value} {K : VK} (h : ldK P ws t v K w) :
    ∃ c, (Instr.loadAt t v).run P w = .ok c w ∧ K c w := by
  unfold ldK at h
  cases ha : isAggO P t with
  | none => simp only [ha] at h
  | some b =>
    cases b with
    | true =>
      simp only [ha] at h
      cases hs : szO P t with
      | none => simp only [hs] at h
      | some n =>
        simp only [hs] at h
        have : ∃ a l, v = .pointer (some a) ∧ cellsAt w a 0 n = some l ∧ K (.agg l.toArray) w := by
          cases ws with
          | nil =>
            simp only [ldN] at h
            split at h
            · rename_i a
              split at h
              · rename_i l hl; exact ⟨a, l, rfl, hl, h⟩
              · cases h
            · cases h
          | cons w0 ws =>
            simp only [ldNS] at h
            split at h
            · rename_i a
              split at h
              · rename_i l hl; exact ⟨a, l, rfl, hl, stabN_imp h⟩
              · cases h
            · cases h
        obtain ⟨a, l, rfl, hl, hK⟩ := this
        exact ⟨_, s_loadN ha hs hl, hK⟩
    | false =>
      simp only [ha] at h
      have : ∃ a c, v = .pointer (some a) ∧ w.cell? a = some c ∧ K c w := by
        cases ws with
        | nil =>
          simp only [ld1] at h
          split at h
          · rename_i a
            split at h
            · rename_i l hl; exact ⟨a, l, rfl, hl, h⟩
            · cases h
          · cases h
        | cons w0 ws =>
          simp only [ld1S] at h
          split at h
          · rename_i a
            split at h
            · rename_i l hl; exact ⟨a, l, rfl, hl, stab_imp h⟩
            · cases h
          · cases h
      obtain ⟨a, c, rfl, hc, hK⟩ := this
      exact ⟨_, s_load1 ha hc, hK⟩
theorem run_store1 {a : Addr} {x : Value} (hs : scalar x = true) (hc : (w.cell? a).isSome = true) (hf : w.frozen? a = false) (s : Sem Unit) :
    (do store a x; s).run P w = s.run P (w.setCell a x) := by
  obtain ⟨u, hu⟩ := Option.isSome_iff_exists.1 hc
  rw [Sem.run_bind]
  have : (store a x).run P w = .ok () (w.setCell a x) := by
    unfold store
    cases x <;> first | (simp [scalar] at hs; done) | simp [Sem.run, hu, hf]
  rw [this]; rfl
theorem run_stCells {a : Addr} {G : WP} : ∀ (l : List Value) (i : Nat) (w : World), stCells a l i G w → ∃ w', (storeCells a l i).run P w = .ok () w' ∧ G w'
  | [], i, w, h => ⟨w, rfl, h⟩
  | c :: l, i, w, h => by
    obtain ⟨h1, h2, h3, h4⟩ := h
    obtain ⟨w', hr, hg⟩ := run_stCells l (i + 1) _ h4
    refine ⟨w', ?_, hg⟩
    rw [storeCells, run_store1 h1 h2 h3]; exact hr
theorem stK_spec {t : Nat} {v x : Value} {K : VK} (h : stK P t v x K w) : ∃ w', (Instr.storeAt t v x).run P w = .ok () w' ∧ K undef w' := by
  unfold stK at h
  cases ha : isAggO P t with
  | none => simp only [ha] at h
  | some b =>
    cases b with
    | true =>
      simp only [ha] at h
      cases hs : szO P t with
      | none => simp only [hs] at h
      | some n =>
        simp only [hs, stN] at h
        split at h
        · rename_i a cs
          obtain ⟨hn, h⟩ := h
          obtain ⟨w', hr, hg⟩ := run_stCells (P := P) _ _ _ h
          refine ⟨w', ?_, hg⟩
          rw [Instr.storeAt, Sem.run_bind, run_sureAddr]
          simp only [Result.andThen, storeVar, Sem.run_bind, run_sizeOf' hs, Value.cells, hn]
          simpa [Result.andThen] using hr
        · cases h
    | false =>
      simp only [ha] at h
      cases hs : szO P t with
      | none => simp only [hs] at h
      | some n =>
        simp only [hs] at h
        obtain rfl : n = 1 := by
          rcases n with _ | _ | n
          · simp at h
          · rfl
          · simp at h
        simp only [st1] at h
        split at h
        · rename_i a
          obtain ⟨h1, h2, h3, h4⟩ := h
          refine ⟨_, ?_, h4⟩
          rw [Instr.storeAt, Sem.run_bind, run_sureAddr]
          have hc : x.cells = #[x] := by cases x <;> first | rfl | (simp [scalar] at h1; done)
          simp only [Result.andThen, storeVar, Sem.run_bind, run_sizeOf' hs, hc]
          have h0 : a.add 0 = a := by simp [Addr.add]
          have := run_store1 (P := P) (a := a) h1 h2 h3 (pure ())
          simpa [storeCells, h0, Result.andThen] using this
        · cases h
theorem valV_spec {R : ER} {s : Sem Value} {K : VK} (h : valV P R s K w) : stepK P R K ((do pure (Next.value (← s)) : Sem Next).run P w) := by
  unfold valV at h
  rw [Sem.run_bind]
  split at h
  · rename_i hr; rw [hr]; exact h
  · rename_i hr; rw [hr]; exact h
  · cases h
theorem unitV_spec {R : ER} {s : Sem Unit} {K : VK} (h : unitV P R s K w) : stepK P R K ((do s; pure Next.skip : Sem Next).run P w) := by
  unfold unitV at h
  rw [Sem.run_bind]
  split at h
  · rename_i hr; rw [hr]; exact h
  · rename_i hr; rw [hr]; exact h
  · cases h
/-- No function of the program is the one that counts goroutines. -/
def NG (P : Program) : Prop := ∀ (f : Nat) (fn : Func), P.funcs[f]? = some fn → (fn.name == "runtime.NumGoroutine") = false
theorem run_enter (hng : NG P) {f : Nat} {args : Array Value} (h : enterOk P f = true) : (callFunc f args).run P w = .ok (.enter f args) w := by
  unfold enterOk at h
  cases hf : P.funcs[f]? with
  | none => simp [hf] at h
  | some fn =>
    simp only [hf] at h
    have hn := hng f fn hf
    have hb : fn.body.isNone = false := by cases hb : fn.body <;> simp_all
    rw [callFunc, Sem.run_bind]
    simp only [program, Sem.run, Result.andThen, hf, hn, hb]
    rfl
theorem effK_sound (hng : NG P) {R : ER} {o : Oper} {e : Env} {K : VK} (h : effK P R o e K w) : stepK P R K ((execOp (ev e) o).run P w) := by
  obtain ⟨dst, op, type, pos, after, guard⟩ := o
  cases op <;> simp only [effK, amap_eq] at h <;> first
    | exact valV_spec h
    | exact unitV_spec h
    | skip
  case store t a x =>
    obtain ⟨w', hr, hK⟩ := stK_spec h
    simp only [execOp]; rw [Sem.run_bind, hr]; exact hK
  case alloc t =>
    unfold al at h
    split at h
    · rename_i z hz
      simp only [execOp, Instr.alloc]
      rw [Sem.run_bind, Sem.run_bind, run_zeroValue' hz]
      exact h
    · cases h
  case call c =>
    cases hc : c.callee with
    | value f =>
      by_cases hf : ∃ g, f = .func g
      · obtain ⟨g, rfl⟩ := hf
        simp only [hc] at h
        cases hb : enterOk P g with
        | false => rw [hb] at h; exact h
        | true =>
          rw [hb] at h
          simp only [execOp, resolve, hc]
          change stepK P R K ((callFunc g (#[] ++ c.args.map (ev e) ++ #[])).run P w)
          simp only [Array.append_empty, Array.empty_append]
          rw [run_enter hng hb]; exact h
      · have h' : calD P R (ev e f) (c.args.map (ev e)) K w := by
          cases f <;> first | exact absurd ⟨_, rfl⟩ hf | (simp only [hc] at h; exact h)
        have hex : execOp (ev e) { dst := dst, op := .call c, type := type, pos := pos, after := after, guard := guard } =
            (do let d ← Deferred.ofValue (ev e f) (c.args.map (ev e)); invoke d.target d.args) := by simp only [execOp, resolve, hc]
        rw [hex]
        by_cases hv : ∃ g first captured, ev e f = .func (.func g) first captured
        · obtain ⟨g, first, captured, hv⟩ := hv
          rw [hv] at h' ⊢
          simp only [calD] at h'
          cases hb : enterOk P g with
          | false => rw [hb] at h'; exact h'
          | true =>
            rw [hb] at h'
            change stepK P R K ((callFunc g ((first ++ c.args.map (ev e)) ++ captured)).run P w)
            rw [run_enter hng hb]; exact h'
        · unfold calD at h'
          generalize ev e f = vf at h' hv ⊢
          cases vf with
          | func fn first captured =>
            cases fn with
            | func g => exact absurd ⟨g, first, captured, rfl⟩ hv
            | _ => exact h'
          | _ => exact h'
    | invoke recv name =>
      simp only [hc] at h
      have hex : execOp (ev e) { dst := dst, op := .call c, type := type, pos := pos, after := after, guard := guard } =
          (invoke (.fn (.method name) #[]) (#[ev e recv] ++ c.args.map (ev e))) := by simp only [execOp, resolve, hc]; rfl
      rw [hex]; exact h
    | builtin b =>
      simp only [hc] at h
      rw [exec_builtin (b := b) rfl hc]; exact h
theorem opK_sound (hng : NG P) {R : ER} {ws : List World} {o : Oper} {e : Env} {K : VK} (h : opK P R ws o e K w) : stepK P R K ((execOp (ev e) o).run P w) := by
  unfold opK at h
  cases hf : pureFn P o.op with
  | some f =>
    simp only [hf, pv] at h
    cases hv : f e with
    | none => simp only [hv] at h
    | some v => simp only [hv] at h; rw [pureFn_sound hf hv]; exact h
  | none =>
    simp only [hf] at h
    by_cases hl : ∃ t a, o.op = .load t a
    · obtain ⟨t, a, hop⟩ := hl
      simp only [hop] at h
      obtain ⟨c, hr, hK⟩ := ldK_spec h
      have : execOp (ev e) o = (do pure (Next.value (← Instr.loadAt t (ev e a)))) := by simp only [execOp, hop]
      rw [this, run_value hr]; exact hK
    · have h' : effK P R o e K w := by
        generalize hop : o.op = op at h hl
        cases op <;> first | exact absurd ⟨_, _, rfl⟩ hl | exact h
      exact effK_sound hng h'
end
end Go.Proofs.YthcekppbbanfeaaGreat.Den
