/- That each operation of the denotation does what the model's operation does. Conditions: none. -/
import Derived.Test.YthcekppbbanfeaaGreatDen
import Derived.Laws.World
set_option linter.unusedVariables false
set_option linter.unusedSimpArgs false
namespace Go.Proofs.YthcekppbbanfeaaGreat.Den
open Go

theorem run_underlying' {P : Program} {t : TypeId} {d : TypeDesc} {w : World} (h : P.underlying t = some d) : (underlying t).run P w = .ok d w := by
  simp [underlying, program, Sem.run, h, Sem.run_bind, Result.andThen]
theorem run_sizeOf' {P : Program} {t : TypeId} {s : Nat} {w : World} (h : szO P t = some s) : (sizeOf t).run P w = .ok s w := by
  unfold szO at h
  cases hi : P.info? t with
  | none => simp [hi] at h
  | some i => simp [hi] at h; simp [sizeOf, typeInfo, program, Sem.run, hi, Sem.run_bind, Result.andThen, h]
theorem run_isAgg' {P : Program} {t : TypeId} {b : Bool} {w : World} (h : isAggO P t = some b) : (isAgg t).run P w = .ok b w := by
  unfold isAggO at h
  unfold isAgg
  cases hu : P.underlying t with
  | none => simp [hu] at h
  | some d =>
    rw [Sem.run_bind, run_underlying' hu]
    simp only [hu] at h
    cases d <;> simp_all [Result.andThen]
theorem run_value {P : Program} {s : Sem Value} {v : Value} {w w' : World} (h : s.run P w = .ok v w') : (do pure (Next.value (← s)) : Sem Next).run P w = .ok (.value v) w' := by
  simp [Sem.run_bind, h, Result.andThen]

section
variable {P : Program} {w : World}
theorem run_asIntOf (k : IntKind) (n : Int) : (asIntOf (.int k n)).run P w = .ok (k, n) w := rfl
theorem run_sureAddr (a : Addr) : (Instr.sureAddr (.pointer (some a))).run P w = .ok a w := rfl

theorem s_fieldAddr {t f s : Nat} {fs : Array Field} {fd : Field} {x v : Value} (hu : P.underlying t = some (.struct fs)) (hf : fs[f]? = some fd)
    (hs : szO P fd.type = some (s + 1)) (h : faO fd.offset x = some v) : (Instr.fieldAt t x f).run P w = .ok v w := by
  unfold faO at h
  split at h
  · injection h with h; subst h
    simp [Instr.fieldAt, Sem.run_bind, run_underlying' hu, Result.andThen, hf, run_sureAddr, fieldPlace, run_sizeOf' hs]
  · cases h
theorem s_arr {t n el : Nat} {x v : Value} (hu : P.underlying t = some (.array n el)) (h : arrO n x = some v) : (Instr.arrayAt t x).run P w = .ok v w := by
  unfold arrO at h
  split at h
  · rename_i a len c
    split at h
    · cases h
    · rename_i hlt
      injection h with h; subst h
      simp [Instr.arrayAt, Sem.run_bind, run_underlying' hu, Result.andThen, hlt]
  · cases h
theorem s_indexA {t n el s : Nat} {x i v : Value} (hu : P.underlying t = some (.array n el)) (hs : szO P el = some s) (h : ixA n s x i = some v) :
    (Instr.indexAt t x i).run P w = .ok v w := by
  unfold ixA at h
  split at h
  · rename_i a k j
    split at h
    · rename_i hb; injection h with h; subst h
      simp [Instr.indexAt, Sem.run_bind, run_underlying' hu, Result.andThen, run_sureAddr, run_asIntOf, run_sizeOf' hs, hb]
    · cases h
  · cases h
theorem s_indexS {t el s : Nat} {x i v : Value} (hu : P.underlying t = some (.slice el)) (hs : szO P el = some s) (h : ixS s x i = some v) :
    (Instr.indexAt t x i).run P w = .ok v w := by
  unfold ixS at h
  split at h
  · rename_i a n c k j
    split at h
    · rename_i hb; injection h with h; subst h
      simp [Instr.indexAt, Sem.run_bind, run_underlying' hu, Result.andThen, run_sureAddr, run_asIntOf, run_sizeOf' hs, hb]
    · cases h
  · cases h
theorem s_ixStr {t : Nat} {x i v : Value} (hu : P.underlying t = some .string) (h : ixStr x i = some v) :
    (Instr.index t x i).run P w = .ok v w := by
  unfold ixStr at h
  split at h
  · rename_i s k j
    split at h
    · rename_i hb
      split at h
      · rename_i b hs; injection h with h; subst h
        simp [Instr.index, Sem.run_bind, run_underlying' hu, Result.andThen, run_asIntOf, hb, hs]
      · cases h
    · cases h
  · cases h
theorem s_part1 {t off : Nat} {cs : Array Value} {v : Value} (ha : isAggO P t = some false) (h : cs[off]? = some v) : (part t cs off).run P w = .ok v w := by
  simp [part, Sem.run_bind, run_isAgg' ha, Result.andThen, h]
theorem s_partN {t off s : Nat} {cs : Array Value} (ha : isAggO P t = some true) (hs : szO P t = some s) : (part t cs off).run P w = .ok (.agg (cs.extract off (off + s))) w := by
  simp [part, Sem.run_bind, run_isAgg' ha, Result.andThen, run_sizeOf' hs]
theorem s_ixV1 {t n el : Nat} {x i v : Value} (hu : P.underlying t = some (.array n el)) (ha : isAggO P el = some false) (hs : szO P el = some 1) (h : ixV1 n x i = some v) :
    (Instr.index t x i).run P w = .ok v w := by
  unfold ixV1 at h
  split at h
  · rename_i cs k j
    split at h
    · rename_i hb
      simp [Instr.index, Sem.run_bind, run_underlying' hu, Result.andThen, run_asIntOf, hb, run_sizeOf' hs, s_part1 ha h] at h ⊢
      exact s_part1 ha (by simpa using h) ▸ rfl
    · cases h
  · cases h
theorem s_ixVN {t n el s : Nat} {x i v : Value} (hu : P.underlying t = some (.array n el)) (ha : isAggO P el = some true) (hs : szO P el = some s) (h : ixVN n s x i = some v) :
    (Instr.index t x i).run P w = .ok v w := by
  unfold ixVN at h
  split at h
  · rename_i cs k j
    split at h
    · rename_i hb; injection h with h; subst h
      simp [Instr.index, Sem.run_bind, run_underlying' hu, Result.andThen, run_asIntOf, hb, run_sizeOf' hs, s_partN ha hs]
    · cases h
  · cases h
theorem s_field1 {t f : Nat} {fs : Array Field} {fd : Field} {x v : Value} (hu : P.underlying t = some (.struct fs)) (hf : fs[f]? = some fd)
    (ha : isAggO P fd.type = some false) (h : fld1 fd.offset x = some v) : (Instr.field t x f).run P w = .ok v w := by
  unfold fld1 at h
  split at h
  · rename_i cs
    simp [Instr.field, Sem.run_bind, run_underlying' hu, Result.andThen, hf, asAgg, s_part1 ha h]
  · cases h
theorem s_fieldN {t f s : Nat} {fs : Array Field} {fd : Field} {x v : Value} (hu : P.underlying t = some (.struct fs)) (hf : fs[f]? = some fd)
    (ha : isAggO P fd.type = some true) (hs : szO P fd.type = some s) (h : fldN fd.offset s x = some v) : (Instr.field t x f).run P w = .ok v w := by
  unfold fldN at h
  split at h
  · rename_i cs; injection h with h; subst h
    simp [Instr.field, Sem.run_bind, run_underlying' hu, Result.andThen, hf, asAgg, s_partN ha hs]
  · cases h

theorem s_binI {op : BinOp} {t : Nat} {x y v : Value} (h : bin op x y = some v) : (binOp op t x y).run P w = .ok v w := by
  unfold bin at h
  split at h
  · rename_i k a k' b
    cases op <;> simp only [bitsI] at h <;> (split at h) <;> first
      | (cases h; done)
      | (rename_i hk; subst hk; injection h with h; subst h; simp only [binOp, ne_eq, not_true_eq_false, if_false]; rfl)
      | (rename_i hk; obtain ⟨rfl, hb⟩ := hk; injection h with h; subst h; simp only [binOp, ne_eq, not_true_eq_false, if_false, Op.intDiv, hb]; rfl)
      | (rename_i hb; injection h with h; subst h; simp only [binOp, Op.shift, hb, if_false]; rfl)
  · cases h
theorem s_eqGuardI {op : BinOp} {t : Nat} {x y : Operand} {a b : Value} (ha : a ≠ .nilIface) (hb : ∀ cs, a ≠ .agg cs) : (eqGuard op t x y a b).run P w = .ok () w := by
  unfold eqGuard
  cases a <;> first | exact absurd rfl ha | exact absurd rfl (hb _) | (cases op <;> rfl)
theorem bin_fst {op : BinOp} {x y v : Value} (h : bin op x y = some v) : x ≠ .nilIface ∧ (∀ cs, x ≠ .agg cs) := by
  unfold bin at h
  split at h
  · simp
  · cases h
theorem run_equal_bool {t : Nat} {a b : Bool} (hu : P.underlying t = some .bool) : (Op.equal t (.bool a) (.bool b)).run P w = .ok (a == b) w := by
  have : ∀ d, (Op.equalIn (d + 1) t (.bool a) (.bool b)).run P w = .ok (a == b) w := by
    intro d; rw [Op.equalIn, Sem.run_bind, run_underlying' hu]; rfl
  exact this 9999
theorem run_equal_nil {t el : Nat} {a : Option Addr} (hu : P.underlying t = some (.pointer el)) : (Op.equal t (.pointer a) (.pointer none)).run P w = .ok a.isNone w := by
  have : ∀ d, (Op.equalIn (d + 1) t (.pointer a) (.pointer none)).run P w = .ok a.isNone w := by
    intro d; rw [Op.equalIn, Sem.run_bind, run_underlying' hu]; cases a <;> rfl
  exact this 9999
theorem s_binB {op : BinOp} {t : Nat} {x y v : Value} (hu : P.underlying t = some .bool) (h : binB op x y = some v) : (binOp op t x y).run P w = .ok v w := by
  unfold binB at h
  split at h
  · rename_i a b
    cases op <;> first
      | (cases h; done)
      | (injection h with h; subst h
         show Sem.run P (do pure (Value.bool (← Op.equal t (.bool a) (.bool b)))) w = _
         rw [Sem.run_bind, run_equal_bool hu]; rfl)
      | (injection h with h; subst h
         show Sem.run P (do pure (Value.bool (!(← Op.equal t (.bool a) (.bool b))))) w = _
         rw [Sem.run_bind, run_equal_bool hu]; rfl)
  · cases h
theorem binB_fst {op : BinOp} {x y v : Value} (h : binB op x y = some v) : x ≠ .nilIface ∧ (∀ cs, x ≠ .agg cs) := by
  unfold binB at h
  split at h
  · simp
  · cases h
theorem s_binS {op : BinOp} {t : Nat} {x y v : Value} (h : binS op x y = some v) : (binOp op t x y).run P w = .ok v w := by
  unfold binS at h
  split at h
  · rename_i a b
    cases op <;> first
      | (cases h; done)
      | (injection h with h; subst h; rfl)
      | (simp only at h; split at h
         · cases h
         · rename_i hb; injection h with h; subst h
           show Sem.run P (Op.stringOp .add a b) w = _
           simp only [Op.stringOp, hb, if_false]; rfl)
  · cases h
theorem binS_fst {op : BinOp} {x y v : Value} (h : binS op x y = some v) : x ≠ .nilIface ∧ (∀ cs, x ≠ .agg cs) := by
  unfold binS at h
  split at h
  · simp
  · cases h
theorem s_eqNil {t el : Nat} {x v : Value} (hu : P.underlying t = some (.pointer el)) (h : eqNilP x = some v) : (binOp .eql t x (.pointer none)).run P w = .ok v w := by
  unfold eqNilP at h
  split at h
  · rename_i a; injection h with h; subst h
    show Sem.run P (do pure (Value.bool (← Op.equal t (.pointer a) (.pointer none)))) w = _
    rw [Sem.run_bind, run_equal_nil hu]; rfl
  · cases h
theorem s_neNil {t el : Nat} {x v : Value} (hu : P.underlying t = some (.pointer el)) (h : neNilP x = some v) : (binOp .neq t x (.pointer none)).run P w = .ok v w := by
  unfold neNilP at h
  split at h
  · rename_i a; injection h with h; subst h
    show Sem.run P (do pure (Value.bool (!(← Op.equal t (.pointer a) (.pointer none))))) w = _
    rw [Sem.run_bind, run_equal_nil hu]; rfl
  · cases h
theorem run_equal_nilS {t el : Nat} {a : Option Addr} {n c : Nat} (hu : P.underlying t = some (.slice el)) : (Op.equal t (.slice a n c) (.slice none 0 0)).run P w = .ok a.isNone w := by
  have : ∀ d, (Op.equalIn (d + 1) t (.slice a n c) (.slice none 0 0)).run P w = .ok a.isNone w := by
    intro d; rw [Op.equalIn, Sem.run_bind, run_underlying' hu]; cases a <;> rfl
  exact this 9999
theorem s_eqNilS {t el : Nat} {x v : Value} (hu : P.underlying t = some (.slice el)) (h : eqNilS x = some v) : (binOp .eql t x (.slice none 0 0)).run P w = .ok v w := by
  unfold eqNilS at h
  split at h
  · rename_i a n c; injection h with h; subst h
    show Sem.run P (do pure (Value.bool (← Op.equal t (.slice a n c) (.slice none 0 0)))) w = _
    rw [Sem.run_bind, run_equal_nilS hu]; rfl
  · cases h
theorem s_neNilS {t el : Nat} {x v : Value} (hu : P.underlying t = some (.slice el)) (h : neNilS x = some v) : (binOp .neq t x (.slice none 0 0)).run P w = .ok v w := by
  unfold neNilS at h
  split at h
  · rename_i a n c; injection h with h; subst h
    show Sem.run P (do pure (Value.bool (!(← Op.equal t (.slice a n c) (.slice none 0 0))))) w = _
    rw [Sem.run_bind, run_equal_nilS hu]; rfl
  · cases h
theorem s_unary {op : UnOp} {x v : Value} (h : unO op x = some v) : (Op.unary op x).run P w = .ok v w := by
  unfold unO at h
  split at h
  · injection h with h; subst h; rfl
  · injection h with h; subst h; rfl
  · simp only [bitsI] at h; injection h with h; subst h; rfl
  · cases h
theorem s_convert {s d : Nat} {k0 k : IntKind} {x v : Value} (hs : P.underlying s = some (.int k0)) (hd : P.underlying d = some (.int k)) (h : cvI k x = some v) :
    (convert s d x).run P w = .ok v w := by
  unfold cvI at h
  split at h
  · injection h with h; subst h
    simp [convert, Sem.run_bind, run_underlying' hs, run_underlying' hd, Result.andThen, Conv.intToInt]
  · cases h
theorem run_bound_some {k : IntKind} {i : Int} {y h0 d : Nat} {code : BoundsCode} (h : boundO (some (.int k i)) y d = some h0) : (Instr.sliceBound (.int k i) y code).run P w = .ok h0 w := by
  simp only [boundO] at h
  split at h
  · rename_i hb; injection h with h; subst h
    simp [Instr.sliceBound, Sem.run_bind, run_asIntOf, Result.andThen, hb]
  · cases h
theorem run_bounds {isS : Bool} {len cap l h m : Nat} {lo hi : Option Value} (h1 : boundO hi cap len = some h) (h2 : boundO lo h 0 = some l) :
    (Instr.sliceBounds isS len cap lo hi none).run P w = .ok (l, h, cap) w := by
  unfold Instr.sliceBounds
  have e1 : ∀ code, (match hi with | some v => Instr.sliceBound v cap code | none => pure len : Sem Nat).run P w = .ok h w := by
    intro code
    cases hi with
    | none => simp only [boundO] at h1; injection h1 with h1; subst h1; rfl
    | some v => cases v <;> first | exact run_bound_some h1 | (cases h1; done)
  have e2 : ∀ code, (match lo with | some v => Instr.sliceBound v h code | none => pure 0 : Sem Nat).run P w = .ok l w := by
    intro code
    cases lo with
    | none => simp only [boundO] at h2; injection h2 with h2; subst h2; rfl
    | some v => cases v <;> first | exact run_bound_some h2 | (cases h2; done)
  cases hi with
  | none =>
    have := e1 .sliceB
    cases lo with
    | none => simp_all [Sem.run_bind, Result.andThen]
    | some v => have e := e2 .sliceB; simp_all [Sem.run_bind, Result.andThen]
  | some u =>
    have := e1 (if isS then .sliceAcap else .sliceAlen)
    cases lo with
    | none => simp_all [Sem.run_bind, Result.andThen]
    | some v => have e := e2 .sliceB; simp_all [Sem.run_bind, Result.andThen]
theorem s_slS {t el s : Nat} {x v : Value} {lo hi : Option Value} (hu : P.underlying t = some (.slice el)) (hs : szO P el = some s) (h : slS s x lo hi = some v) :
    (Instr.sliceAt t x lo hi none).run P w = .ok v w := by
  unfold slS at h
  split at h
  · rename_i a len cap
    split at h
    · rename_i hh h1
      split at h
      · rename_i l h2; injection h with h; subst h
        simp [Instr.sliceAt, Instr.slice, Sem.run_bind, run_underlying' hu, Result.andThen, run_bounds (m := 0) h1 h2, run_sizeOf' hs]
      · cases h
    · cases h
  · cases h
theorem s_slA {t n el s : Nat} {x v : Value} {lo hi : Option Value} (hu : P.underlying t = some (.array n el)) (hs : szO P el = some s) (h : slA n s x lo hi = some v) :
    (Instr.sliceAt t x lo hi none).run P w = .ok v w := by
  unfold slA at h
  split at h
  · rename_i a
    split at h
    · rename_i hh h1
      split at h
      · rename_i l h2; injection h with h; subst h
        simp [Instr.sliceAt, Instr.slice, Sem.run_bind, run_underlying' hu, Result.andThen, run_sureAddr, run_bounds (m := 0) h1 h2, run_sizeOf' hs]
      · cases h
    · cases h
  · cases h
theorem s_slStr {t : Nat} {x v : Value} {lo hi : Option Value} (hu : P.underlying t = some .string) (h : slStr x lo hi = some v) :
    (Instr.sliceAt t x lo hi none).run P w = .ok v w := by
  unfold slStr at h
  split at h
  · rename_i s
    split at h
    · rename_i hh h1
      split at h
      · rename_i l h2; injection h with h; subst h
        simp [Instr.sliceAt, Instr.slice, Sem.run_bind, run_underlying' hu, Result.andThen, run_bounds (m := 0) h1 h2]
      · cases h
    · cases h
  · cases h
theorem s_lenS {t el : Nat} {x v : Value} {ty : Nat} (hu : P.underlying t = some (.slice el)) (h : lenS x = some v) : (Builtin.len_ #[t] ty #[x]).run P w = .ok v w := by
  unfold lenS at h
  split at h
  · injection h with h; subst h
    simp [Builtin.len_, Sem.run_bind, run_underlying' hu, Result.andThen, goInt]
  · cases h
theorem s_lenStr {t : Nat} {x v : Value} {ty : Nat} (hu : P.underlying t = some .string) (h : lenStr x = some v) : (Builtin.len_ #[t] ty #[x]).run P w = .ok v w := by
  unfold lenStr at h
  split at h
  · injection h with h; subst h
    simp [Builtin.len_, Sem.run_bind, run_underlying' hu, Result.andThen, goInt]
  · cases h
theorem s_lenA {t n el : Nat} {x : Value} {ty : Nat} (hu : P.underlying t = some (.array n el)) : (Builtin.len_ #[t] ty #[x]).run P w = .ok (.int .i64 n) w := by
  simp [Builtin.len_, Sem.run_bind, run_underlying' hu, Result.andThen, goInt]
theorem s_min {ts : Array TypeId} {ty : Nat} {x y v : Value} (h : min2I x y = some v) : (Builtin.min_ ts ty #[x, y]).run P w = .ok v w := by
  unfold min2I at h
  split at h
  · injection h with h; subst h; rfl
  · cases h
theorem s_max {ts : Array TypeId} {ty : Nat} {x y v : Value} (h : max2I x y = some v) : (Builtin.max_ ts ty #[x, y]).run P w = .ok v w := by
  unfold max2I at h
  split at h
  · injection h with h; subst h; rfl
  · cases h

theorem run_zeroValue' {t : Nat} {z : Value} (h : (P.info? t).bind (·.zero) = some z) : (zeroValue t).run P w = .ok z w := by
  cases hi : P.info? t with
  | none => simp [hi] at h
  | some i => simp [hi] at h; simp [zeroValue, typeInfo, program, Sem.run, hi, Sem.run_bind, Result.andThen, h]
theorem run_mapM_list {α β : Type} (g : α → Sem β) (f : α → β) : ∀ (l : List α), (∀ x ∈ l, ∀ w, (g x).run P w = .ok (f x) w) → (l.mapM g).run P w = .ok (l.map f) w
  | [], _ => rfl
  | x :: l, h => by
    rw [List.mapM_cons, Sem.run_bind, h x (List.mem_cons_self ..)]
    simp only [Result.andThen, Sem.run_bind, run_mapM_list g f l (fun y hy => h y (List.mem_cons_of_mem _ hy))]
    rfl
theorem run_mapM_array {α β : Type} (g : α → Sem β) (f : α → β) (l : Array α) (h : ∀ x ∈ l.toList, ∀ w, (g x).run P w = .ok (f x) w) : (l.mapM g).run P w = .ok (l.map f) w := by
  have : (l.mapM g) = List.toArray <$> l.toList.mapM g := by rw [Array.mapM_eq_mapM_toList]
  rw [this, Sem.run_map, run_mapM_list g f l.toList h]
  simp only [Result.andThen]
  congr 1
  rw [← Array.toList_map]
theorem splice_aux (off : Nat) : ∀ (l : List Value) (k : Nat) (cells : Array Value), off + k + l.length ≤ cells.size →
    ((l.zipIdx k).foldl (fun cs (p : Value × Nat) => cs.setIfInBounds (off + p.2) p.1) cells).toList = cells.toList.take (off + k) ++ l ++ cells.toList.drop (off + k + l.length)
  | [], k, cells, h => by simp
  | c :: l, k, cells, h => by
    simp only [List.zipIdx_cons, List.foldl_cons]
    rw [splice_aux off l (k + 1) _ (by simp at h ⊢; omega)]
    have hk : off + k < cells.size := by simp at h; omega
    rw [Array.toList_setIfInBounds]
    have e1 : (cells.toList.set (off + k) c).take (off + (k + 1)) = cells.toList.take (off + k) ++ [c] := by
      rw [show off + (k + 1) = (off + k) + 1 by omega, List.take_add_one, List.take_set_of_le (by omega)]
      simp [hk]
    have e2 : (cells.toList.set (off + k) c).drop (off + (k + 1) + l.length) = cells.toList.drop (off + k + (c :: l).length) := by
      rw [List.drop_set_of_lt (by omega)]
      congr 1; simp; omega
    rw [e1, e2]; simp
theorem splice (off : Nat) (v cells : Array Value) (h : off + v.size ≤ cells.size) :
    (v.zipIdx.foldl (fun cs (p : Value × Nat) => cs.setIfInBounds (off + p.2) p.1) cells).toList = cells.toList.take off ++ v.toList ++ cells.toList.drop (off + v.size) := by
  have := splice_aux off v.toList 0 cells (by simpa using h)
  rw [← Array.foldl_toList]
  simpa using this
theorem fill_eq (place : Nat → Option (Nat × Nat)) : ∀ (parts : List (Nat × Value)) (cells : Array Value) (l : List (Nat × Nat × Value)) (r : List Value),
    parts.map (fun p => (place p.1).map fun q => (q.1, q.2, p.2)) = l.map some → buildL cells.toList l = some r → Instr.fill place cells parts = some r.toArray
  | [], cells, l, r, hl, h => by
    cases l with
    | nil => simp only [buildL] at h; injection h with h; subst h; simp [Instr.fill]
    | cons => cases hl
  | (i, v) :: parts, cells, l, r, hl, h => by
    cases l with
    | nil => cases hl
    | cons x l =>
      obtain ⟨off, sz, u⟩ := x
      simp only [List.map_cons, List.cons.injEq] at hl
      obtain ⟨h0, hl⟩ := hl
      cases hp : place i with
      | none => simp [hp] at h0
      | some q =>
        simp only [hp, Option.map_some, Option.some.injEq, Prod.mk.injEq] at h0
        obtain ⟨rfl, rfl, rfl⟩ := h0
        simp only [buildL] at h
        split at h
        · cases h
        · rename_i hb
          have hb1 : v.cells.size = q.2 := by omega
          have hb2 : q.1 + v.cells.size ≤ cells.size := by simp at hb; omega
          have hc : (decide (v.cells.size ≠ q.2) || decide (q.1 + v.cells.size > cells.size)) = false := by simp [hb1]; omega
          simp only [Instr.fill, hp]
          rw [if_neg (by simpa using hc)]
          refine fill_eq place parts _ l r hl ?_
          rw [splice _ _ _ hb2, hb1]; exact h
theorem bldO_some {zero : List Value} {parts : List (Nat × Nat × Value)} {v : Value} (h : bldO zero parts = some v) : ∃ r, buildL zero parts = some r ∧ v = .agg r.toArray := by
  unfold bldO at h
  split at h
  · rename_i l hl; injection h with h; exact ⟨l, hl, h.symm⟩
  · cases h
theorem placesO_spec {t : Nat} {e : Env} : ∀ (parts : List (Nat × Operand)) (l : List (Nat × Nat × Operand)), placesO P t parts = some l →
    (parts.map fun (i, x) => (i, ev e x)).map (fun p => (placeO P t p.1).map fun q => (q.1, q.2, p.2)) = (evParts e l).map some
  | [], l, h => by simp only [placesO] at h; injection h with h; subst h; rfl
  | (i, x) :: r, l, h => by
    simp only [placesO] at h
    split at h
    · rename_i o s ho
      split at h
      · rename_i l' hl'; injection h with h; subst h
        simp only [List.map_cons, ho, evParts, Option.map_some, placesO_spec r l' hl']
      · cases h
    · cases h
theorem s_build {t : Nat} {e : Env} {parts : Array (Nat × Operand)} {z v : Value} {l : List (Nat × Nat × Operand)} (hz : (P.info? t).bind (·.zero) = some z)
    (hl : placesO P t parts.toList = some l) (hs : fieldsSized P t = true) (h : bldO z.cells.toList (evParts e l) = some v) :
    (Instr.build t (parts.map fun (i, x) => (i, ev e x))).run P w = .ok v w := by
  obtain ⟨r, hr, rfl⟩ := bldO_some h
  have hp := placesO_spec (e := e) parts.toList l hl
  unfold Instr.build
  rw [Sem.run_bind, run_zeroValue' hz]
  simp only [Result.andThen]
  cases hu : P.underlying t with
  | none => simp [fieldsSized, hu] at hs
  | some d =>
    cases d <;> first | (simp [fieldsSized, hu] at hs; done) | skip
    case array n el =>
      simp only [fieldsSized, hu] at hs
      obtain ⟨s, hs⟩ := Option.isSome_iff_exists.1 hs
      rw [Sem.run_bind, run_underlying' hu]
      simp only [Result.andThen, Sem.run_bind, run_sizeOf' hs]
      have hpl : (fun i => some (i * s, s)) = placeO P t := by funext i; simp [placeO, hu, hs]
      rw [hpl, fill_eq (placeO P t) _ _ _ r (by simpa using hp) hr]
      rfl
    case struct fs =>
      simp only [fieldsSized, hu, List.all_eq_true] at hs
      rw [Sem.run_bind, run_underlying' hu]
      simp only [Result.andThen, Sem.run_bind]
      rw [run_mapM_array _ (fun f => (f.offset, (szO P f.type).getD 0)) fs (fun f hf w => by
        obtain ⟨s, hs⟩ := Option.isSome_iff_exists.1 (hs f hf)
        simp only [Sem.run_bind, run_sizeOf' hs, Result.andThen, hs, Option.getD_some]; rfl)]
      simp only [Result.andThen]
      have hpl : ∀ i, (fs.map (fun f => (f.offset, (szO P f.type).getD 0)))[i]? = placeO P t i := by
        intro i
        rw [Array.getElem?_map]
        unfold placeO
        simp only [hu]
        cases hf : fs[i]? with
        | none => rfl
        | some f =>
          obtain ⟨s, hs⟩ := Option.isSome_iff_exists.1 (hs f (by simpa using Array.mem_of_getElem? hf))
          simp [hs]
      have hpl' : (fun i => (fs.map (fun f => (f.offset, (szO P f.type).getD 0)))[i]?) = placeO P t := funext hpl
      rw [hpl', fill_eq (placeO P t) _ _ _ r (by simpa using hp) hr]
      rfl
end
end Go.Proofs.YthcekppbbanfeaaGreat.Den
