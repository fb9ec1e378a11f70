/- Links: what a link holds, as numbers and lists, and where it stands in memory. Conditions: none. -/
import Derived.Test.YtmnpndgmfmjfhaaLkH
set_option linter.unusedVariables false
set_option linter.unusedSimpArgs false
set_option maxRecDepth 8000
namespace Go.Proofs.Ytmnpndgmfmjfhaa.Den
open Go Go.RowKit
structure UM where
  last : Bool
  m : Int
  f : Int
  d : List Int
  at_ : Int
structure AM where
  w : Nat
  m : Int
  f : Int
structure LM where
  up : List Bool
  size : Int
  quality : Int
  timeout : Int
  clock : Int
  us : List UM
  sent : Int
  done : Int
  repeats : Int
  turn : Int
  broken : Bool
  msg : Int
  frag : Int
  part : List Int
  acks : List AM
def ucell (u : UM) (s : Value) : List Value := [I 1, .bool u.last, I u.m, I u.f, s, I u.at_]
def ucells (us : List UM) (sv : List Value) : List Value := (List.zipWith ucell us sv).flatten
def acell (a : AM) : List Value := [I (a.w : Int), I 2, .bool false, I a.m, I a.f, .slice none 0 0]
def acells (l : List AM) : List Value := (l.map acell).flatten
def lkc (M : LM) (su sus sp sa : Value) : List Value :=
  [su, I M.size, I M.quality, I M.timeout, I M.clock, sus, I M.sent, I M.done, I M.repeats, I M.turn, .bool M.broken, I 2, .bool false, I M.msg, I M.frag, .slice none 0 0, sp, sa]
/-- The parts of a link in memory; D: the chunks of its units' data. tu, ta: the types of units and acknowledgments. -/
structure LkP (tu ta : Nat) (w0 : Base) (M : LM) (su sus sp sa : Value) (cu cus cp ca D : List Chunk) (sv : List Value) : Prop where
  up : Sl 4 1 su M.up.length (M.up.map .bool) cu
  us : Sl tu 6 sus M.us.length (ucells M.us sv) cus
  svl : sv.length = M.us.length
  dat : ∀ (i : Nat) (u : UM) (s : Value), M.us[i]? = some u → sv[i]? = some s → RdL w0 D 1 s u.d.length (bv u.d) ∧ s.cells = #[s] ∧ scalar s = true
  part : Sl 5 1 sp M.part.length (bv M.part) cp
  acks : Sl ta 6 sa M.acks.length (acells M.acks) ca
/-- A link of the program stands at block b in the chunks L. -/
def Lk (w0 : Base) (b : Nat) (M : LM) (L : List Chunk) : Prop :=
  ∃ su sus sp sa cu cus cp ca D sv, LkP 101 107 w0 M su sus sp sa cu cus cp ca D sv ∧ L = ⟨b, 96, lkc M su sus sp sa⟩ :: (cu ++ (cus ++ (cp ++ (ca ++ D))))
theorem elT92 : ElT 92 4 1 1 [.bool false] := ⟨by kernel_rfl, by kernel_rfl, rfl⟩
theorem elT93 : ElT 93 101 6 64 [I 0, .bool false, I 0, I 0, .slice none 0 0, I 0] := ⟨by kernel_rfl, by kernel_rfl, rfl⟩
theorem elT94 : ElT 94 107 6 64 [I 0, I 0, .bool false, I 0, I 0, .slice none 0 0] := ⟨by kernel_rfl, by kernel_rfl, rfl⟩
theorem elT104 : ElT 104 3 1 8 [I 0] := ⟨by kernel_rfl, by kernel_rfl, rfl⟩
theorem elT43 : ElT 43 90 2 32 [I 0, .slice none 0 0] := ⟨by kernel_rfl, by kernel_rfl, rfl⟩
theorem elT36 : ElT 36 24 1 24 [.slice none 0 0] := ⟨by kernel_rfl, by kernel_rfl, rfl⟩
theorem flat_length {α : Type} {sz : Nat} : ∀ {L : List (List α)}, (∀ l ∈ L, l.length = sz) → L.flatten.length = L.length * sz
  | [], _ => by simp
  | a :: L, h => by
    rw [List.flatten_cons, List.length_append, h a (by simp), flat_length (fun l hl => h l (by simp [hl])), List.length_cons, Nat.add_mul]; omega
theorem flat_get {α : Type} {sz : Nat} : ∀ {L : List (List α)}, (∀ l ∈ L, l.length = sz) → ∀ {i j : Nat} {l : List α}, L[i]? = some l → j < sz → L.flatten[i * sz + j]? = l[j]?
  | [], _, i, j, l, h, _ => by simp at h
  | a :: L, hL, 0, j, l, h, hj => by
    simp only [List.getElem?_cons_zero, Option.some.injEq] at h; subst h
    rw [List.flatten_cons, Nat.zero_mul, Nat.zero_add, List.getElem?_append_left (by rw [hL a (by simp)]; exact hj)]
  | a :: L, hL, i + 1, j, l, h, hj => by
    simp only [List.getElem?_cons_succ] at h
    have ha := hL a (by simp)
    rw [List.flatten_cons, List.getElem?_append_right (by rw [ha, Nat.add_mul]; omega), ha]
    have : (i + 1) * sz + j - sz = i * sz + j := by rw [Nat.add_mul]; omega
    rw [this]
    exact flat_get (fun l hl => hL l (by simp [hl])) h hj
theorem zip_len : ∀ (us : List UM) (sv : List Value), ∀ l ∈ List.zipWith ucell us sv, l.length = 6
  | [], _, l, h => by simp at h
  | _ :: _, [], l, h => by simp at h
  | u :: us, s :: sv, l, h => by
    simp only [List.zipWith_cons_cons, List.mem_cons] at h
    rcases h with rfl | h
    · rfl
    · exact zip_len us sv l h
theorem ucells_len {us : List UM} {sv : List Value} (h : sv.length = us.length) : (ucells us sv).length = us.length * 6 := by
  unfold ucells
  rw [flat_length (sz := 6) (zip_len us sv)]
  simp [h]
theorem zip_get {us : List UM} {sv : List Value} {i : Nat} {u : UM} {s : Value} (hu : us[i]? = some u) (hs : sv[i]? = some s) : (List.zipWith ucell us sv)[i]? = some (ucell u s) := by
  simp [List.getElem?_zipWith, hu, hs]
theorem ucells_get {us : List UM} {sv : List Value} {i j : Nat} {u : UM} {s : Value} (hu : us[i]? = some u) (hs : sv[i]? = some s) (hj : j < 6) : (ucells us sv)[i * 6 + j]? = (ucell u s)[j]? :=
  flat_get (sz := 6) (zip_len us sv) (zip_get hu hs) hj
theorem ucells_append {us us' : List UM} {sv sv' : List Value} (h : sv.length = us.length) : ucells (us ++ us') (sv ++ sv') = ucells us sv ++ ucells us' sv' := by
  unfold ucells; rw [List.zipWith_append (by rw [h]), List.flatten_append]
theorem flat_set {α : Type} {sz : Nat} : ∀ {L : List (List α)}, (∀ l ∈ L, l.length = sz) → ∀ {i j : Nat} {l : List α} {v : α}, L[i]? = some l → j < sz → L.flatten.set (i * sz + j) v = (L.set i (l.set j v)).flatten
  | [], _, i, j, l, v, h, _ => by simp at h
  | a :: L, hL, 0, j, l, v, h, hj => by
    simp only [List.getElem?_cons_zero, Option.some.injEq] at h; subst h
    rw [List.flatten_cons, Nat.zero_mul, Nat.zero_add, List.set_append_left _ _ (by rw [hL a (by simp)]; exact hj)]; rfl
  | a :: L, hL, i + 1, j, l, v, h, hj => by
    simp only [List.getElem?_cons_succ] at h
    have ha := hL a (by simp)
    rw [List.flatten_cons, List.set_append_right _ _ (by rw [ha, Nat.add_mul]; omega), ha]
    have : (i + 1) * sz + j - sz = i * sz + j := by rw [Nat.add_mul]; omega
    rw [this, flat_set (fun l hl => hL l (by simp [hl])) h hj]; rfl
theorem zip_set {us : List UM} {sv : List Value} {i : Nat} {u u' : UM} {s : Value} (hu : us[i]? = some u) (hs : sv[i]? = some s) : List.zipWith ucell (us.set i u') sv = (List.zipWith ucell us sv).set i (ucell u' s) := by
  apply List.ext_getElem?
  intro k
  by_cases hk : k = i
  · subst hk
    have h1 : k < us.length := by have := (List.getElem?_eq_some_iff.1 hu).1; exact this
    have h2 : k < sv.length := by have := (List.getElem?_eq_some_iff.1 hs).1; exact this
    rw [List.getElem?_eq_getElem h2] at hs
    injection hs with hs
    subst hs
    simp [List.getElem?_zipWith, List.getElem?_set, h1, h2]
    omega
  · simp [List.getElem?_zipWith, List.getElem?_set, Ne.symm hk]
/-- One unit is sent: its cell of time. -/
theorem ucells_at {us : List UM} {sv : List Value} {i : Nat} {u : UM} {s : Value} (hu : us[i]? = some u) (hs : sv[i]? = some s) (t : Int) :
    (ucells us sv).set (i * 6 + 5) (I t) = ucells (us.set i { u with at_ := t }) sv := by
  unfold ucells
  rw [zip_set hu hs]
  exact flat_set (sz := 6) (l := ucell u s) (zip_len us sv) (zip_get hu hs) (by omega)
theorem ucells_last {us : List UM} {sv : List Value} {i : Nat} {u : UM} {s : Value} (hu : us[i]? = some u) (hs : sv[i]? = some s) (b : Bool) :
    (ucells us sv).set (i * 6 + 1) (.bool b) = ucells (us.set i { u with last := b }) sv := by
  unfold ucells
  rw [zip_set hu hs]
  exact flat_set (sz := 6) (l := ucell u s) (zip_len us sv) (zip_get hu hs) (by omega)
theorem acells_get {l : List AM} {i j : Nat} {a : AM} (ha : l[i]? = some a) (hj : j < 6) : (acells l)[i * 6 + j]? = (acell a)[j]? :=
  flat_get (sz := 6) (by intro x hx; obtain ⟨_, _, rfl⟩ := List.mem_map.1 hx; rfl) (by simp [ha]) hj
theorem acells_len (l : List AM) : (acells l).length = l.length * 6 := by
  unfold acells
  rw [flat_length (sz := 6) (by intro x hx; obtain ⟨_, _, rfl⟩ := List.mem_map.1 hx; rfl), List.length_map]
/-- An element of a slice of the run's own. -/
theorem Sl.elem {el sz n : Nat} {s : Value} {xs : List Value} {cs : List Chunk} (h : Sl el sz s n xs cs) {i : Nat} (hi : i < n) : ∃ b cap rest, cs = [⟨b, el, xs ++ rest⟩] ∧ s = .slice (some ⟨b, 0, none⟩) n cap ∧
    ∀ k : IntKind, ixS sz s (.int k (i : Int)) = some (ptr b (i * sz)) := by
  obtain ⟨b, cap, rest, rfl, rfl, h1, h2, h3⟩ := h.chunk (by omega)
  exact ⟨b, cap, rest, rfl, rfl, fun k => by rw [ixS_mk hi, Nat.zero_add]⟩
/-- A cell ahead of what is behind it. -/
theorem get_left {α : Type} {l r : List α} {i : Nat} {v : α} (h : l[i]? = some v) : (l ++ r)[i]? = some v := by
  rw [List.getElem?_append_left (List.getElem?_eq_some_iff.1 h).1]; exact h
theorem set_left {α : Type} {l r : List α} {i : Nat} {v : α} (h : i < l.length) : (l ++ r).set i v = l.set i v ++ r := List.set_append_left _ _ h
/-! ### New -/
def newM (wires : Nat) (size quality timeout : Int) : LM :=
  { up := List.replicate wires true, size := size, quality := quality, timeout := timeout, clock := 0, us := [], sent := 0, done := 0, repeats := 0, turn := 0, broken := false, msg := 1, frag := 0, part := [], acks := [] }
def newE (wires size quality timeout : Int) : Int := if wires < 1 ∨ 8 < wires ∨ size < 32 ∨ 4096 < size ∨ timeout < 1 ∨ 1099511627776 < timeout then 34 else if quality < 0 ∨ 2 < quality then 17 else 0
section
variable {w : World} {w0 : Base} {F L : List Chunk} {R : ER}
theorem mul64_1 (R : ER) : bits_Mul64 R (U64 1) (U64 1) = R (.returned (.tuple ⟨[U64 0, U64 1]⟩)) := by kernel_rfl
theorem mul64_2 (R : ER) : bits_Mul64 R (U64 1) (U64 2) = R (.returned (.tuple ⟨[U64 0, U64 2]⟩)) := by kernel_rfl
theorem mul64_3 (R : ER) : bits_Mul64 R (U64 1) (U64 3) = R (.returned (.tuple ⟨[U64 0, U64 3]⟩)) := by kernel_rfl
theorem mul64_4 (R : ER) : bits_Mul64 R (U64 1) (U64 4) = R (.returned (.tuple ⟨[U64 0, U64 4]⟩)) := by kernel_rfl
theorem mul64_5 (R : ER) : bits_Mul64 R (U64 1) (U64 5) = R (.returned (.tuple ⟨[U64 0, U64 5]⟩)) := by kernel_rfl
theorem mul64_6 (R : ER) : bits_Mul64 R (U64 1) (U64 6) = R (.returned (.tuple ⟨[U64 0, U64 6]⟩)) := by kernel_rfl
theorem mul64_7 (R : ER) : bits_Mul64 R (U64 1) (U64 7) = R (.returned (.tuple ⟨[U64 0, U64 7]⟩)) := by kernel_rfl
theorem mul64_8 (R : ER) : bits_Mul64 R (U64 1) (U64 8) = R (.returned (.tuple ⟨[U64 0, U64 8]⟩)) := by kernel_rfl
theorem mul64_small {n : Nat} (h1 : 1 ≤ n) (h8 : n ≤ 8) (R : ER) : bits_Mul64 R (U64 1) (U64 (n : Int)) = R (.returned (.tuple ⟨[U64 0, U64 (n : Int)]⟩)) := by
  have : n = 1 ∨ n = 2 ∨ n = 3 ∨ n = 4 ∨ n = 5 ∨ n = 6 ∨ n = 7 ∨ n = 8 := by omega
  rcases this with rfl | rfl | rfl | rfl | rfl | rfl | rfl | rfl
  · exact mul64_1 R
  · exact mul64_2 R
  · exact mul64_3 R
  · exact mul64_4 R
  · exact mul64_5 R
  · exact mul64_6 R
  · exact mul64_7 R
  · exact mul64_8 R
theorem mul_small {n : Nat} (h1 : 1 ≤ n) (h8 : n ≤ 8) : Calls Pg 65 ⟨[U64 1, U64 (n : Int)]⟩ w fun e w' => e = .returned (.tuple ⟨[U64 0, U64 (n : Int)]⟩) ∧ w' = w := by
  apply bits_Mul_calls
  unfold bits_Mul bits_Mul_j2 bits_Mul_j1
  simp only [pv_some, nilO_ptr, faO_mk, gd_yes, gd_no, gd_yes', gd_no', cnd_true, cnd_false, pick_true, pick_false, not_bool, bin_add, bin_sub, bin_mul, bin_eql, bin_neq, bin_lss, bin_leq, bin_gtr, bin_geq, ext0, ext1, ext2, lenS_mk, eqNil_none, eqNil_some, neNil_none, neNil_some, ret_k, mem, Nat.zero_add, Nat.add_zero, Nat.mul_one, drewV, Bool.not_true, Bool.not_false]
  refine cal_h (bits_Mul64_calls (R := fun e w' => e = .returned (.tuple ⟨[U64 0, U64 (n : Int)]⟩) ∧ w' = w) ?_) ?_
  · rw [mul64_small h1 h8]; exact ⟨rfl, rfl⟩
  · rintro e w' ⟨rfl, rfl⟩
    simp only [pv_some, nilO_ptr, faO_mk, gd_yes, gd_no, gd_yes', gd_no', cnd_true, cnd_false, pick_true, pick_false, not_bool, bin_add, bin_sub, bin_mul, bin_eql, bin_neq, bin_lss, bin_leq, bin_gtr, bin_geq, ext0, ext1, ext2, lenS_mk, eqNil_none, eqNil_some, neNil_none, neNil_some, ret_k, mem, Nat.zero_add, Nat.add_zero, Nat.mul_one, drewV, Bool.not_true, Bool.not_false]
    exact ⟨trivial, trivial⟩
theorem tf_lay {j n k : Nat} (hk : k = min j (n - j)) (hj : j ≤ n) : lay (List.replicate j (Value.bool true) ++ List.replicate (n - j) (Value.bool false)) j ((List.replicate j (Value.bool true)).take (k * 1)) = List.replicate (j + k) (Value.bool true) ++ List.replicate (n - (j + k)) (Value.bool false) := by
  unfold lay
  rw [List.take_left' (by simp), Nat.mul_one, List.take_replicate, List.length_replicate, Nat.min_eq_left (by omega), List.drop_append, List.length_replicate, List.drop_replicate, List.drop_replicate]
  rw [show j - (j + k) = 0 from by omega, show n - j - (j + k - j) = n - (j + k) from by omega]
  simp only [List.replicate_zero, List.nil_append]
  rw [List.replicate_append_replicate]
theorem repeat_l {n nb : Nat} (hn : n ≤ 8) (hq : ∀ w', Hp w0 w' (⟨nb, 4, List.replicate n (Value.bool true)⟩ :: F) → R (.returned (.slice (some ⟨nb, 0, none⟩) n n)) w') :
    ∀ (d j : Nat) (w : World), 1 ≤ j → j ≤ n → n - j < d → Hp w0 w (⟨nb, 4, List.replicate j (Value.bool true) ++ List.replicate (n - j) (Value.bool false)⟩ :: F) →
      slices_Repeat_l1 R d (.slice (some ⟨nb, 0, none⟩) n n) (I (j : Int)) w
  | 0, j, w, h1, h2, h3, H => by omega
  | d + 1, j, w, h1, h2, h3, H => by
    rw [slices_Repeat_l1_succ]
    unfold slices_Repeat_b1 slices_Repeat_j5 slices_Repeat_j3
    simp only [pv_some, nilO_ptr, faO_mk, gd_yes, gd_no, gd_yes', gd_no', cnd_true, cnd_false, pick_true, pick_false, not_bool, bin_add, bin_sub, bin_mul, bin_eql, bin_neq, bin_lss, bin_leq, bin_gtr, bin_geq, ext0, ext1, ext2, lenS_mk, eqNil_none, eqNil_some, neNil_none, neNil_some, ret_k, mem, Nat.zero_add, Nat.add_zero, Nat.mul_one, drewV, Bool.not_true, Bool.not_false]
    refine cnd_decide (fun h => ?_) (fun h => ?_)
    · have hjn : j < n := by omega
      have e1 : slS 1 (.slice (some ⟨nb, 0, none⟩) n n) (some (I (j : Int))) none = some (.slice (some ⟨nb, j, none⟩) (n - j) (n - j)) := by
        simp only [slS, boundO]
        rw [if_pos (by omega)]
        simp only [Int.toNat_natCast, Option.map_some, add_mk, Nat.mul_one, Nat.zero_add]
        rw [if_neg (by omega)]
      have e2 : slS 1 (.slice (some ⟨nb, 0, none⟩) n n) none (some (I (j : Int))) = some (.slice (some ⟨nb, 0, none⟩) j n) := by
        simp only [slS, boundO]
        rw [if_pos (by omega)]
        simp only [Int.toNat_natCast, Option.map_some, Nat.zero_mul, Nat.sub_zero]
        rw [if_neg (by omega)]; rfl
      simp only [e1, e2, pv_some, nilO_ptr, faO_mk, gd_yes, gd_no, gd_yes', gd_no', cnd_true, cnd_false, pick_true, pick_false, not_bool, bin_add, bin_sub, bin_mul, bin_eql, bin_neq, bin_lss, bin_leq, bin_gtr, bin_geq, ext0, ext1, ext2, lenS_mk, eqNil_none, eqNil_some, neNil_none, neNil_some, ret_k, mem, Nat.zero_add, Nat.add_zero, Nat.mul_one, drewV, Bool.not_true, Bool.not_false]
      refine copy_h (m := j) (ys := List.replicate j (.bool true)) elT92 H.drew 0 rfl (by simp) (.inr ⟨nb, 0, n, 4, List.replicate j (.bool true) ++ List.replicate (n - j) (.bool false), rfl, by omega, by simp, by simp, by simp⟩) (by intro c hc; rw [List.eq_of_mem_replicate hc]; rfl) fun w2 H2 => ?_
      rw [tf_lay rfl h2] at H2
      simp only [pv_some, nilO_ptr, faO_mk, gd_yes, gd_no, gd_yes', gd_no', cnd_true, cnd_false, pick_true, pick_false, not_bool, bin_add, bin_sub, bin_mul, bin_eql, bin_neq, bin_lss, bin_leq, bin_gtr, bin_geq, ext0, ext1, ext2, lenS_mk, eqNil_none, eqNil_some, neNil_none, neNil_some, ret_k, mem, Nat.zero_add, Nat.add_zero, Nat.mul_one, drewV, Bool.not_true, Bool.not_false]
      have hmin : 1 ≤ min j (n - j) := by omega
      rw [wrap64_id (by omega) (by omega), show (j : Int) + ((min j (n - j) : Nat) : Int) = ((j + min j (n - j) : Nat) : Int) from by omega]
      exact repeat_l hn hq d _ w2 (by omega) (by omega) (by omega) H2
    · have hjn : j = n := by omega
      subst hjn
      rw [Nat.sub_self, List.replicate_zero, List.append_nil] at H
      exact hq w H
theorem Repeat_spec {n b : Nat} (h1 : 1 ≤ n) (h8 : n ≤ 8) (H : Hp w0 w (⟨b, 4, [.bool true]⟩ :: F)) :
    Calls Pg 48 ⟨[.slice (some ⟨b, 0, none⟩) 1 1, I (n : Int)]⟩ w fun e w' => ∃ nb, e = .returned (.slice (some ⟨nb, 0, none⟩) n n) ∧ Hp w0 w' (⟨nb, 4, List.replicate n (.bool true)⟩ :: F) := by
  apply slices_Repeat_calls
  unfold slices_Repeat
  simp only [pv_some, nilO_ptr, faO_mk, gd_yes, gd_no, gd_yes', gd_no', cnd_true, cnd_false, pick_true, pick_false, not_bool, bin_add, bin_sub, bin_mul, bin_eql, bin_neq, bin_lss, bin_leq, bin_gtr, bin_geq, ext0, ext1, ext2, lenS_mk, eqNil_none, eqNil_some, neNil_none, neNil_some, ret_k, mem, Nat.zero_add, Nat.add_zero, Nat.mul_one, drewV, Bool.not_true, Bool.not_false, show decide ((n : Int) < 0) = false from decide_eq_false (by omega)]
  unfold slices_Repeat_j1
  simp only [pv_some, nilO_ptr, faO_mk, gd_yes, gd_no, gd_yes', gd_no', cnd_true, cnd_false, pick_true, pick_false, not_bool, bin_add, bin_sub, bin_mul, bin_eql, bin_neq, bin_lss, bin_leq, bin_gtr, bin_geq, ext0, ext1, ext2, lenS_mk, eqNil_none, eqNil_some, neNil_none, neNil_some, ret_k, mem, Nat.zero_add, Nat.add_zero, Nat.mul_one, drewV, Bool.not_true, Bool.not_false, cvU64]
  have e1 : u64 ((1 : Nat) : Int) = 1 := rfl
  have e2 : u64 (n : Int) = (n : Int) := Int.emod_eq_of_lt (by omega) (by omega)
  rw [e1, e2]
  refine cal_h (mul_small h1 h8) ?_
  rintro e w1 ⟨rfl, rfl⟩
  simp only [pv_some, nilO_ptr, faO_mk, gd_yes, gd_no, gd_yes', gd_no', cnd_true, cnd_false, pick_true, pick_false, not_bool, bin_add, bin_sub, bin_mul, bin_eql, bin_neq, bin_lss, bin_leq, bin_gtr, bin_geq, ext0, ext1, ext2, lenS_mk, eqNil_none, eqNil_some, neNil_none, neNil_some, ret_k, mem, Nat.zero_add, Nat.add_zero, Nat.mul_one, drewV, Bool.not_true, Bool.not_false]
  simp only [show decide ((0 : Int) < 0) = false from rfl, show decide ((9223372036854775807 : Int) < (n : Int)) = false from decide_eq_false (by omega), pv_some, nilO_ptr, faO_mk, gd_yes, gd_no, gd_yes', gd_no', cnd_true, cnd_false, pick_true, pick_false, not_bool, bin_add, bin_sub, bin_mul, bin_eql, bin_neq, bin_lss, bin_leq, bin_gtr, bin_geq, ext0, ext1, ext2, lenS_mk, eqNil_none, eqNil_some, neNil_none, neNil_some, ret_k, mem, Nat.zero_add, Nat.add_zero, Nat.mul_one, drewV, Bool.not_true, Bool.not_false]
  unfold slices_Repeat_j2
  have e3 : cvI .i64 (U64 (n : Int)) = some (I (n : Int)) := by simp only [cvI]; rw [wrap64_id (by omega) (by omega)]
  simp only [e3, pv_some, nilO_ptr, faO_mk, gd_yes, gd_no, gd_yes', gd_no', cnd_true, cnd_false, pick_true, pick_false, not_bool, bin_add, bin_sub, bin_mul, bin_eql, bin_neq, bin_lss, bin_leq, bin_gtr, bin_geq, ext0, ext1, ext2, lenS_mk, eqNil_none, eqNil_some, neNil_none, neNil_some, ret_k, mem, Nat.zero_add, Nat.add_zero, Nat.mul_one, drewV, Bool.not_true, Bool.not_false]
  refine make_h elT92 H (n := n) (c := n) rfl rfl (Nat.le_refl _) (by omega) (by omega) fun w2 nb H2 => ?_
  have hz : (List.replicate n [Value.bool false]).flatten = List.replicate n (.bool false) := by simp
  rw [hz] at H2
  refine copy_h (m := 1) (ys := [.bool true]) elT92 H2 0 rfl (by simp) (.inr ⟨b, 0, 1, 4, [.bool true], rfl, by omega, by simp, by simp, rfl⟩) (by simp [scalar]) fun w3 H3 => ?_
  have hl : lay (List.replicate n (Value.bool false)) 0 ([Value.bool true].take (min 1 n * 1)) = List.replicate 1 (.bool true) ++ List.replicate (n - 1) (.bool false) := by
    rw [Nat.min_eq_left h1]
    unfold lay; simp
  rw [hl] at H3
  rw [Nat.min_eq_left h1]
  unfold slices_Repeat_j4
  refine ⟨n + 1, ?_⟩
  exact repeat_l (F := ⟨b, 4, [.bool true]⟩ :: F) h8 (fun w' H' => ⟨nb, rfl, H'.to (by intro f; simp only [I, U8, U64, ptr, List.set_cons_zero, List.set_cons_succ, List.eraseIdx_cons_zero, List.eraseIdx_cons_succ, List.map_append, List.map_cons, List.map_nil, List.sum_append, List.sum_cons, List.sum_nil]; omega)⟩) (n + 1) 1 w3 (by omega) h1 (by omega) H3
end
end Go.Proofs.Ytmnpndgmfmjfhaa.Den
