/- Channels: steps of the maps, and the table's small functions. Conditions: none. -/
import Derived.Test.YtmkcjopacmadhaaGreatChK
set_option linter.unusedVariables false
set_option linter.unusedSimpArgs false
set_option maxRecDepth 8000
set_option maxHeartbeats 2000000
namespace Go.Proofs.YtmkcjopacmadhaaGreat.Den
open Go Go.RowKit
theorem obj_upd {κ : Type} [DecidableEq κ] {f : κ → Option Nat} {k : κ} {v : Option Nat} : updF (obj f) k (v.map some) = obj (updF f k v) := by
  funext x; simp only [updF, obj]; split <;> rfl
theorem obj_getD {κ : Type} {f : κ → Option Nat} {k : κ} : ((obj f) k).getD none = f k := by unfold obj; cases f k <;> rfl
theorem obj_some {κ : Type} {f : κ → Option Nat} {k : κ} : ((obj f) k).isSome = (f k).isSome := by unfold obj; cases f k <;> rfl
theorem updF_map {κ ν μ : Type} [DecidableEq κ] {f : κ → Option ν} {k : κ} {v : Option ν} {g : ν → μ} : updF (fun x => (f x).map g) k (v.map g) = fun x => (updF f k v x).map g := by
  funext x; simp only [updF]; split <;> rfl
section
variable {L L' A A' B F : List Chunk} {w w0 : World} {tb n b o r : Nat} {T : Tbl} {ch : Chn} {cx : Cnn} {m : Msg} {K : VK} {R : ER} {v : Value} {G : WP} {th p q id : Int} {ty : Nat} {cc : Array Bool}
theorem getCh_a (k : K (pO (T.chm id)) w) (hA : TblAt tb T n A := by assumption) (H : Hp w0 w L := by assumption) (hs : ∀ c ∈ A, c ∈ L := by exact csub) (hb : T.bs.b1 = b := by with_unfolding_all rfl) : valV Pg R (Instr.lookup 81 (.map (some b)) (I id) false) K w := by
  subst hb
  obtain ⟨c, A', h1, h2, _⟩ := hA.map1
  refine mapGet mapsH.ch id h1 H (hs _ (h2.mem.2 (by simp))) ?_
  rw [obj_getD]; exact k
theorem getCh2_a (k : K (.tuple ⟨[pO (T.chm id), .bool (T.chm id).isSome]⟩) w) (hA : TblAt tb T n A := by assumption) (H : Hp w0 w L := by assumption) (hs : ∀ c ∈ A, c ∈ L := by exact csub) (hb : T.bs.b1 = b := by with_unfolding_all rfl) : valV Pg R (Instr.lookup 81 (.map (some b)) (I id) true) K w := by
  subst hb
  obtain ⟨c, A', h1, h2, _⟩ := hA.map1
  refine mapGet2 mapsH.ch id h1 H (hs _ (h2.mem.2 (by simp))) ?_
  rw [obj_getD, obj_some]; exact k
theorem getCn_a (k : K (pO (T.cnm (p, q))) w) (hA : TblAt tb T n A := by assumption) (H : Hp w0 w L := by assumption) (hs : ∀ c ∈ A, c ∈ L := by exact csub) (hb : T.bs.b2 = b := by with_unfolding_all rfl) : valV Pg R (Instr.lookup 82 (.map (some b)) (.agg ⟨[I p, I q]⟩) false) K w := by
  subst hb
  obtain ⟨c, A', h1, h2, _⟩ := hA.map2
  refine mapGet mapsH.cn (p, q) h1 H (hs _ (h2.mem.2 (by simp))) ?_
  rw [obj_getD]; exact k
theorem getCn2_a (k : K (.tuple ⟨[pO (T.cnm (p, q)), .bool (T.cnm (p, q)).isSome]⟩) w) (hA : TblAt tb T n A := by assumption) (H : Hp w0 w L := by assumption) (hs : ∀ c ∈ A, c ∈ L := by exact csub) (hb : T.bs.b2 = b := by with_unfolding_all rfl) : valV Pg R (Instr.lookup 82 (.map (some b)) (.agg ⟨[I p, I q]⟩) true) K w := by
  subst hb
  obtain ⟨c, A', h1, h2, _⟩ := hA.map2
  refine mapGet2 mapsH.cn (p, q) h1 H (hs _ (h2.mem.2 (by simp))) ?_
  rw [obj_getD, obj_some]; exact k
theorem getPl_a (k : K (.agg ⟨Plc.cells ((T.blk th).getD ⟨0, none, none⟩)⟩) w) (hA : TblAt tb T n A := by assumption) (H : Hp w0 w L := by assumption) (hs : ∀ c ∈ A, c ∈ L := by exact csub) (hb : T.bs.b3 = b := by with_unfolding_all rfl) : valV Pg R (Instr.lookup 83 (.map (some b)) (I th) false) K w := by
  subst hb
  obtain ⟨c, A', h1, h2, _⟩ := hA.map3
  exact mapGet mapsH.pl th h1 H (hs _ (h2.mem.2 (by simp))) k
theorem getPl2_a (k : K (.tuple ⟨[.agg ⟨Plc.cells ((T.blk th).getD ⟨0, none, none⟩)⟩, .bool (T.blk th).isSome]⟩) w) (hA : TblAt tb T n A := by assumption) (H : Hp w0 w L := by assumption) (hs : ∀ c ∈ A, c ∈ L := by exact csub) (hb : T.bs.b3 = b := by with_unfolding_all rfl) : valV Pg R (Instr.lookup 83 (.map (some b)) (I th) true) K w := by
  subst hb
  obtain ⟨c, A', h1, h2, _⟩ := hA.map3
  exact mapGet2 mapsH.pl th h1 H (hs _ (h2.mem.2 (by simp))) k
theorem getTk_a (k : K (pO ((T.tak th).map Prod.fst)) w) (hA : TblAt tb T n A := by assumption) (H : Hp w0 w L := by assumption) (hs : ∀ c ∈ A, c ∈ L := by exact csub) (hb : T.bs.b4 = b := by with_unfolding_all rfl) : valV Pg R (Instr.lookup 85 (.map (some b)) (I th) false) K w := by
  subst hb
  obtain ⟨c, A', h1, h2, _⟩ := hA.map4
  refine mapGet mapsH.tk th h1 H (hs _ (h2.mem.2 (by simp))) ?_
  have : (((T.tak th).map fun p : Nat × Mg => some p.1).getD none) = (T.tak th).map Prod.fst := by cases T.tak th <;> rfl
  rw [this]; exact k
theorem getAn2_a (k : K (  .tuple ⟨[Sh.val (((T.ans th).map Prod.fst).getD ⟨none, 0, 0⟩), .bool (T.ans th).isSome]⟩) w) (hA : TblAt tb T n A := by assumption) (H : Hp w0 w L := by assumption) (hs : ∀ c ∈ A, c ∈ L := by exact csub) (hb : T.bs.b5 = b := by with_unfolding_all rfl) : valV Pg R (Instr.lookup 86 (.map (some b)) (I th) true) K w := by
  subst hb
  obtain ⟨c, A', h1, h2, _⟩ := hA.map5
  refine mapGet2 mapsH.an th h1 H (hs _ (h2.mem.2 (by simp))) ?_
  have : ((T.ans th).map Prod.fst).isSome = (T.ans th).isSome := by cases T.ans th <;> rfl
  rw [this]; exact k
theorem putCh_a (k : ∀ w' A', TblAt tb { T with chm := updF T.chm id (some r) } (n + 1) A' → Hp w0 w' (A' ++ F) → K undef w') (hA : TblAt tb T n A := by assumption) (H : Hp w0 w L := by assumption) (hS : Split L A F := by exact spl) (hb : T.bs.b1 = b := by with_unfolding_all rfl) : unitV Pg R (Instr.mapUpdate 81 (.map (some b)) (I id) (ptr r 0)) K w := by
  subst hb
  obtain ⟨c, A', h1, h2, h3⟩ := hA.map1
  refine mapPut mapsH.ch id (some r) h1 ((H.split hS).eqv h2) Split.here1 fun w' c' H' h' => k w' (c' :: A') (h3 _ _ _ (Nat.le_succ n) ?_) H'
  have e := obj_upd (f := T.chm) (k := id) (v := some r)
  rw [← e]; exact h'
theorem putCn_a (k : ∀ w' A', TblAt tb { T with cnm := updF T.cnm (p, q) (some r) } (n + 1) A' → Hp w0 w' (A' ++ F) → K undef w') (hA : TblAt tb T n A := by assumption) (H : Hp w0 w L := by assumption) (hS : Split L A F := by exact spl) (hb : T.bs.b2 = b := by with_unfolding_all rfl) : unitV Pg R (Instr.mapUpdate 82 (.map (some b)) (.agg ⟨[I p, I q]⟩) (ptr r 0)) K w := by
  subst hb
  obtain ⟨c, A', h1, h2, h3⟩ := hA.map2
  refine mapPut mapsH.cn (p, q) (some r) h1 ((H.split hS).eqv h2) Split.here1 fun w' c' H' h' => k w' (c' :: A') (h3 _ _ _ (Nat.le_succ n) ?_) H'
  have e := obj_upd (f := T.cnm) (k := (p, q)) (v := some r)
  rw [← e]; exact h'
theorem putPl_a (x : Plc) (k : ∀ w' A', TblAt tb (T.setBlk th (some x)) (n + 1) A' → Hp w0 w' (A' ++ F) → K undef w') (hA : TblAt tb T n A := by assumption) (H : Hp w0 w L := by assumption) (hS : Split L A F := by exact spl) (hb : T.bs.b3 = b := by with_unfolding_all rfl) : unitV Pg R (Instr.mapUpdate 83 (.map (some b)) (I th) (.agg ⟨x.cells⟩)) K w := by
  subst hb
  obtain ⟨c, A', h1, h2, h3⟩ := hA.map3
  exact mapPut mapsH.pl th x h1 ((H.split hS).eqv h2) Split.here1 fun w' c' H' h' => k w' (c' :: A') (h3 _ _ _ (Nat.le_succ n) h') H'
theorem putTk_a (x : Mg) (k : ∀ w' A', TblAt tb (T.setTak th (some (r, x))) (n + 1) A' → Hp w0 w' (A' ++ F) → K undef w') (hA : TblAt tb T n A := by assumption) (H : Hp w0 w L := by assumption) (hS : Split L A F := by exact spl) (hb : T.bs.b4 = b := by with_unfolding_all rfl) : unitV Pg R (Instr.mapUpdate 85 (.map (some b)) (I th) (ptr r 0)) K w := by
  subst hb
  obtain ⟨c, A', h1, h2, h3⟩ := hA.map4
  refine mapPut mapsH.tk th (some r) h1 ((H.split hS).eqv h2) Split.here1 fun w' c' H' h' => k w' (c' :: A') (h3 _ _ _ (Nat.le_succ n) ?_) H'
  have e := updF_map (f := T.tak) (k := th) (v := some (r, x)) (g := fun p => some p.1)
  rw [← e]; exact h'
theorem putAn_a (x : Sh) (l : List Int) (k : ∀ w' A', TblAt tb (T.setAns th (some (x, l))) (n + 1) A' → Hp w0 w' (A' ++ F) → K undef w') (hA : TblAt tb T n A := by assumption) (H : Hp w0 w L := by assumption) (hS : Split L A F := by exact spl) (hb : T.bs.b5 = b := by with_unfolding_all rfl) : unitV Pg R (Instr.mapUpdate 86 (.map (some b)) (I th) x.val) K w := by
  subst hb
  obtain ⟨c, A', h1, h2, h3⟩ := hA.map5
  refine mapPut mapsH.an th x h1 ((H.split hS).eqv h2) Split.here1 fun w' c' H' h' => k w' (c' :: A') (h3 _ _ _ (Nat.le_succ n) ?_) H'
  have e := updF_map (f := T.ans) (k := th) (v := some (x, l)) (g := fun p => p.1)
  rw [← e]; exact h'
theorem delPl_a (k : ∀ w' A', TblAt tb (T.setBlk th none) n A' → Hp w0 w' (A' ++ F) → K (.tuple ⟨[]⟩) w') (hA : TblAt tb T n A := by assumption) (H : Hp w0 w L := by assumption) (hS : Split L A F := by exact spl) (hb : T.bs.b3 = b := by with_unfolding_all rfl) : blt Pg R .delete ⟨[83, 3]⟩ ty cc ⟨[.map (some b), I th]⟩ K w := by
  subst hb
  obtain ⟨c, A', h1, h2, h3⟩ := hA.map3
  exact mapDel mapsH.pl th h1 ((H.split hS).eqv h2) Split.here1 fun w' c' H' h' => k w' (c' :: A') (h3 _ _ _ (Nat.le_refl n) h') H'
theorem delTk_a (k : ∀ w' A', TblAt tb (T.setTak th none) n A' → Hp w0 w' (A' ++ F) → K (.tuple ⟨[]⟩) w') (hA : TblAt tb T n A := by assumption) (H : Hp w0 w L := by assumption) (hS : Split L A F := by exact spl) (hb : T.bs.b4 = b := by with_unfolding_all rfl) : blt Pg R .delete ⟨[85, 3]⟩ ty cc ⟨[.map (some b), I th]⟩ K w := by
  subst hb
  obtain ⟨c, A', h1, h2, h3⟩ := hA.map4
  refine mapDel mapsH.tk th h1 ((H.split hS).eqv h2) Split.here1 fun w' c' H' h' => k w' (c' :: A') (h3 _ _ _ (Nat.le_refl n) ?_) H'
  have e := updF_map (f := T.tak) (k := th) (v := none) (g := fun p => some p.1)
  rw [← e]; exact h'
theorem delAn_a (k : ∀ w' A', TblAt tb (T.setAns th none) n A' → Hp w0 w' (A' ++ F) → K (.tuple ⟨[]⟩) w') (hA : TblAt tb T n A := by assumption) (H : Hp w0 w L := by assumption) (hS : Split L A F := by exact spl) (hb : T.bs.b5 = b := by with_unfolding_all rfl) : blt Pg R .delete ⟨[86, 3]⟩ ty cc ⟨[.map (some b), I th]⟩ K w := by
  subst hb
  obtain ⟨c, A', h1, h2, h3⟩ := hA.map5
  refine mapDel mapsH.an th h1 ((H.split hS).eqv h2) Split.here1 fun w' c' H' h' => k w' (c' :: A') (h3 _ _ _ (Nat.le_refl n) ?_) H'
  have e := updF_map (f := T.ans) (k := th) (v := none) (g := fun p => p.1)
  rw [← e]; exact h'
theorem lenE_a (k : K (I (ch.ents.length : Int)) w) (hA : TblAt tb T n A := by assumption) (hc : oget r T.chs = some ch := by assumption) : pv (lenS ch.eh.val) K w := by
  obtain ⟨_, _, _, _, _, t1, _⟩ := hA.chn hc; exact pv_of (lenS_ts t1) k
theorem lenR_a (k : K (I (ch.recs.length : Int)) w) (hA : TblAt tb T n A := by assumption) (hc : oget r T.chs = some ch := by assumption) : pv (lenS ch.rh.val) K w := by
  obtain ⟨_, _, _, _, _, _, t1, _⟩ := hA.chn hc; exact pv_of (lenS_ts t1) k
end
section
variable {w w' w0 : World} {L L' F cs cs2 cs3 A : List Chunk} {s s2 : Value} {K : VK} {R : ER} {tb n : Nat} {T : Tbl} {pri th code val p id : Int}
theorem New_spec (H : Hp w0 w F) : Calls Pg 20 ⟨[]⟩ w fun x w' => ∃ tb B A, x = .returned (ptr tb 0) ∧ TblAt tb (Tbl.new B) 0 A ∧ Hp w0 w' (A ++ F) := by
  apply F20_calls
  unfold F20
  refine mapMake kI vO H fun w b1 c1 H h1 => ?_
  refine mapMake kK vO H fun w b2 c2 H h2 => ?_
  refine mapMake kI vP H fun w b3 c3 H h3 => ?_
  refine mapMake kI vO H fun w b4 c4 H h4 => ?_
  refine mapMake kI Sh.val H fun w b5 c5 H h5 => ?_
  refine pv_of (v := .agg ⟨(Tbl.new ⟨b1, b2, b3, b4, b5⟩).cells⟩) rfl ?_
  refine bx_m H fun w tb H => ?_
  refine ⟨tb, ⟨b1, b2, b3, b4, b5⟩, ⟨tb, .t 88, (Tbl.new ⟨b1, b2, b3, b4, b5⟩).cells⟩ :: c5 :: c4 :: c3 :: c2 :: c1 :: [], rfl, ⟨_, ⟨c1, c2, c3, c4, c5, [], [], [], [], rfl, h1, h2, h3, h4, h5, TS.nil, Objs.nil, Objs.nil, Objs.nil⟩, eqv⟩, H.tre⟩
theorem come_spec (hA : TblAt tb T n A) (h0 : 0 ≤ T.com) (h1 : T.com < 2 ^ 60) (H : Hp w0 w L) (hS : Split L A F := by exact spl) :
    Calls Pg 79 ⟨[ptr tb 0, I pri]⟩ w fun x w' => ∃ A', x = .returned (.agg ⟨[I pri, I (T.com + 1)]⟩) ∧ TblAt tb T.come n A' ∧ Hp w0 w' (A' ++ F) := by
  have H := H.split hS
  obtain ⟨cm, A', e, t1, hre⟩ := hA.top
  have H := (H.eqv e)
  have H : Hp w0 w (⟨tb, .t 88, [.map (some T.bs.b1), .map (some T.bs.b2), .map (some T.bs.b3), T.mh.val, .map (some T.bs.b4), .map (some T.bs.b5), I T.last, I T.com]⟩ :: (cm ++ (A' ++ F))) := H.tre
  apply F79_calls
  unfold F79
  refine al_m (ys := [I 0, I 0]) H (by kernel_rfl) fun w bo H => ?_
  repeat (first | simp only [W0] | refine lss_a ?_ | refine lss_b ?_ | refine gtr_a ?_ | refine gtr_b ?_ | refine geq_a ?_ | refine geq_b ?_ | refine leq_a ?_ | refine leq_b ?_ | refine eql_a ?_ | refine eql_b ?_ | refine neq_a ?_ | refine neq_b ?_ | refine add_a ?_ | refine sub_a ?_ | refine ld_a ?_ | refine ldA_a ?_ | refine ldS_a ?_ | refine ldNS_a ?_ | refine rdA_s ?_ | refine rd1_s ?_ | refine drew_a fun w1 H1 => ?_ | refine st_a fun w1 H1 => ?_ | refine stA_a fun w1 H1 => ?_ | refine lenT_a ?_ | refine lenO_a ?_ | refine ixT_a ?_ | refine ixO_a ?_ | refine bld_a ?_ | refine min_a ?_ | refine max_a ?_ | fail)
  exact ⟨_, (by first | rfl | trivial), hre T.mh T.ml T.last (T.com + 1) cm t1, Hp.tre (by assumption)⟩
theorem State_spec (hA : TblAt tb T n A) (H : Hp w0 w L) (hs : ∀ c ∈ A, c ∈ L := by exact csub) :
    Calls Pg 12 ⟨[ptr tb 0, I th]⟩ w fun x w' => x = .returned (I (T.state th)) ∧ Hp w0 w' L := by
  apply F12_calls
  unfold F12
  have m1 := hs
  repeat (first | simp only [W0, pO, Option.map_some, Option.map_none] | with_reducible (first | refine lss_a ?_ | refine lss_b ?_ | refine gtr_a ?_ | refine gtr_b ?_ | refine geq_a ?_ | refine geq_b ?_ | refine leq_a ?_ | refine leq_b ?_ | refine eql_a ?_ | refine eql_b ?_ | refine neq_a ?_ | refine neq_b ?_ | refine add_a ?_ | refine sub_a ?_ | refine ld_a ?_ | refine ldA_a ?_ | refine ldS_a ?_ | refine ldNS_a ?_ | refine rdA_s ?_ | refine rd1_s ?_ | refine drew_a fun w1 H1 => ?_ | refine st_a fun w1 H1 => ?_ | refine stA_a fun w1 H1 => ?_ | refine lenT_a ?_ | refine lenO_a ?_ | refine ixT_a ?_ | refine ixO_a ?_ | refine bld_a ?_ | refine min_a ?_ | refine max_a ?_  | refine ldT_a ?_ | refine ldC_a ?_ | refine ldX_a ?_ | refine ldM_a ?_ | refine rdT_a ?_ | refine rdC_a ?_ | refine rdX_a ?_ | refine rdM_a ?_ | refine getCh_a ?_ | refine getCh2_a ?_ | refine getCn_a ?_ | refine getCn2_a ?_ | refine getPl_a ?_ | refine getPl2_a ?_ | refine getTk_a ?_ | refine getAn2_a ?_ | refine lenE_a ?_ | refine lenR_a ?_ | refine cv8_a ?_ | refine cv64_a ?_ | fail))
  try unfold F12_j1
  repeat (first | simp only [W0, pO, Option.map_some, Option.map_none] | with_reducible (first | refine lss_a ?_ | refine lss_b ?_ | refine gtr_a ?_ | refine gtr_b ?_ | refine geq_a ?_ | refine geq_b ?_ | refine leq_a ?_ | refine leq_b ?_ | refine eql_a ?_ | refine eql_b ?_ | refine neq_a ?_ | refine neq_b ?_ | refine add_a ?_ | refine sub_a ?_ | refine ld_a ?_ | refine ldA_a ?_ | refine ldS_a ?_ | refine ldNS_a ?_ | refine rdA_s ?_ | refine rd1_s ?_ | refine drew_a fun w1 H1 => ?_ | refine st_a fun w1 H1 => ?_ | refine stA_a fun w1 H1 => ?_ | refine lenT_a ?_ | refine lenO_a ?_ | refine ixT_a ?_ | refine ixO_a ?_ | refine bld_a ?_ | refine min_a ?_ | refine max_a ?_  | refine ldT_a ?_ | refine ldC_a ?_ | refine ldX_a ?_ | refine ldM_a ?_ | refine rdT_a ?_ | refine rdC_a ?_ | refine rdX_a ?_ | refine rdM_a ?_ | refine getCh_a ?_ | refine getCh2_a ?_ | refine getCn_a ?_ | refine getCn2_a ?_ | refine getPl_a ?_ | refine getPl2_a ?_ | refine getTk_a ?_ | refine getAn2_a ?_ | refine lenE_a ?_ | refine lenR_a ?_ | refine cv8_a ?_ | refine cv64_a ?_ | fail))
  refine al_m (ys := [I 0, pO none, pO none]) (by assumption) (by kernel_rfl) fun w bo H => ?_
  unfold Tbl.state
  cases hb : T.blk th with
  | none =>
    simp only [Option.getD_none, Option.isSome_none, Plc.cells]
    repeat (first | simp only [W0] | refine lss_a ?_ | refine lss_b ?_ | refine gtr_a ?_ | refine gtr_b ?_ | refine geq_a ?_ | refine geq_b ?_ | refine leq_a ?_ | refine leq_b ?_ | refine eql_a ?_ | refine eql_b ?_ | refine neq_a ?_ | refine neq_b ?_ | refine add_a ?_ | refine sub_a ?_ | refine ld_a ?_ | refine ldA_a ?_ | refine ldS_a ?_ | refine ldNS_a ?_ | refine rdA_s ?_ | refine rd1_s ?_ | refine drew_a fun w1 H1 => ?_ | refine st_a fun w1 H1 => ?_ | refine stA_a fun w1 H1 => ?_ | refine lenT_a ?_ | refine lenO_a ?_ | refine ixT_a ?_ | refine ixO_a ?_ | refine bld_a ?_ | refine min_a ?_ | refine max_a ?_ | fail)
    exact ⟨(by first | rfl | trivial), Hp.tre (by assumption)⟩
  | some q =>
    simp only [Option.getD_some, Option.isSome_some, Plc.cells]
    repeat (first | simp only [W0] | refine lss_a ?_ | refine lss_b ?_ | refine gtr_a ?_ | refine gtr_b ?_ | refine geq_a ?_ | refine geq_b ?_ | refine leq_a ?_ | refine leq_b ?_ | refine eql_a ?_ | refine eql_b ?_ | refine neq_a ?_ | refine neq_b ?_ | refine add_a ?_ | refine sub_a ?_ | refine ld_a ?_ | refine ldA_a ?_ | refine ldS_a ?_ | refine ldNS_a ?_ | refine rdA_s ?_ | refine rd1_s ?_ | refine drew_a fun w1 H1 => ?_ | refine st_a fun w1 H1 => ?_ | refine stA_a fun w1 H1 => ?_ | refine lenT_a ?_ | refine lenO_a ?_ | refine ixT_a ?_ | refine ixO_a ?_ | refine bld_a ?_ | refine min_a ?_ | refine max_a ?_ | fail)
    exact ⟨(by first | rfl | trivial), Hp.tre (by assumption)⟩
theorem ready_spec (hA : TblAt tb T n A) (H : Hp w0 w L) (hS : Split L A F := by exact spl) :
    Calls Pg 93 ⟨[ptr tb 0, I th, I code, I val]⟩ w fun x w' => ∃ A', x = .returned (.agg ⟨(⟨th, code, val⟩ : Wk).cells⟩) ∧ TblAt tb (T.setBlk th none) n A' ∧ Hp w0 w' (A' ++ F) := by
  have H := H.split hS
  apply F93_calls
  unfold F93
  refine al_m (ys := [I 0, I 0, I 0]) H (by kernel_rfl) fun w bo H => ?_
  repeat (first | simp only [W0, pO, Option.map_some, Option.map_none] | with_reducible (first | refine lss_a ?_ | refine lss_b ?_ | refine gtr_a ?_ | refine gtr_b ?_ | refine geq_a ?_ | refine geq_b ?_ | refine leq_a ?_ | refine leq_b ?_ | refine eql_a ?_ | refine eql_b ?_ | refine neq_a ?_ | refine neq_b ?_ | refine add_a ?_ | refine sub_a ?_ | refine ld_a ?_ | refine ldA_a ?_ | refine ldS_a ?_ | refine ldNS_a ?_ | refine rdA_s ?_ | refine rd1_s ?_ | refine drew_a fun w1 H1 => ?_ | refine st_a fun w1 H1 => ?_ | refine stA_a fun w1 H1 => ?_ | refine lenT_a ?_ | refine lenO_a ?_ | refine ixT_a ?_ | refine ixO_a ?_ | refine bld_a ?_ | refine min_a ?_ | refine max_a ?_  | refine ldT_a ?_ | refine ldC_a ?_ | refine ldX_a ?_ | refine ldM_a ?_ | refine rdT_a ?_ | refine rdC_a ?_ | refine rdX_a ?_ | refine rdM_a ?_ | refine getCh_a ?_ | refine getCh2_a ?_ | refine getCn_a ?_ | refine getCn2_a ?_ | refine getPl_a ?_ | refine getPl2_a ?_ | refine getTk_a ?_ | refine getAn2_a ?_ | refine lenE_a ?_ | refine lenR_a ?_ | refine cv8_a ?_ | refine cv64_a ?_ | fail))
  refine delPl_a fun w A1 hA H => ?_
  repeat (first | simp only [W0, pO, Option.map_some, Option.map_none] | with_reducible (first | refine lss_a ?_ | refine lss_b ?_ | refine gtr_a ?_ | refine gtr_b ?_ | refine geq_a ?_ | refine geq_b ?_ | refine leq_a ?_ | refine leq_b ?_ | refine eql_a ?_ | refine eql_b ?_ | refine neq_a ?_ | refine neq_b ?_ | refine add_a ?_ | refine sub_a ?_ | refine ld_a ?_ | refine ldA_a ?_ | refine ldS_a ?_ | refine ldNS_a ?_ | refine rdA_s ?_ | refine rd1_s ?_ | refine drew_a fun w1 H1 => ?_ | refine st_a fun w1 H1 => ?_ | refine stA_a fun w1 H1 => ?_ | refine lenT_a ?_ | refine lenO_a ?_ | refine ixT_a ?_ | refine ixO_a ?_ | refine bld_a ?_ | refine min_a ?_ | refine max_a ?_  | refine ldT_a ?_ | refine ldC_a ?_ | refine ldX_a ?_ | refine ldM_a ?_ | refine rdT_a ?_ | refine rdC_a ?_ | refine rdX_a ?_ | refine rdM_a ?_ | refine getCh_a ?_ | refine getCh2_a ?_ | refine getCn_a ?_ | refine getCn2_a ?_ | refine getPl_a ?_ | refine getPl2_a ?_ | refine getTk_a ?_ | refine getAn2_a ?_ | refine lenE_a ?_ | refine lenR_a ?_ | refine cv8_a ?_ | refine cv64_a ?_ | fail))
  exact ⟨_, (by first | rfl | trivial), hA, Hp.tre (by assumption)⟩
theorem owned_spec (hA : TblAt tb T n A) (hok : ∀ r, T.chm id = some r → ∃ c, oget r T.chs = some c) (H : Hp w0 w L) (hs : ∀ c ∈ A, c ∈ L := by exact csub) :
    Calls Pg 82 ⟨[ptr tb 0, I p, I id]⟩ w fun x w' => x = .returned (.tuple ⟨[pO (T.owned p id).1, I (T.owned p id).2]⟩) ∧ Hp w0 w' L := by
  apply F82_calls
  unfold F82
  have m1 := hs
  repeat (first | simp only [W0, pO, Option.map_some, Option.map_none] | with_reducible (first | refine lss_a ?_ | refine lss_b ?_ | refine gtr_a ?_ | refine gtr_b ?_ | refine geq_a ?_ | refine geq_b ?_ | refine leq_a ?_ | refine leq_b ?_ | refine eql_a ?_ | refine eql_b ?_ | refine neq_a ?_ | refine neq_b ?_ | refine add_a ?_ | refine sub_a ?_ | refine ld_a ?_ | refine ldA_a ?_ | refine ldS_a ?_ | refine ldNS_a ?_ | refine rdA_s ?_ | refine rd1_s ?_ | refine drew_a fun w1 H1 => ?_ | refine st_a fun w1 H1 => ?_ | refine stA_a fun w1 H1 => ?_ | refine lenT_a ?_ | refine lenO_a ?_ | refine ixT_a ?_ | refine ixO_a ?_ | refine bld_a ?_ | refine min_a ?_ | refine max_a ?_  | refine ldT_a ?_ | refine ldC_a ?_ | refine ldX_a ?_ | refine ldM_a ?_ | refine rdT_a ?_ | refine rdC_a ?_ | refine rdX_a ?_ | refine rdM_a ?_ | refine getCh_a ?_ | refine getCh2_a ?_ | refine getCn_a ?_ | refine getCn2_a ?_ | refine getPl_a ?_ | refine getPl2_a ?_ | refine getTk_a ?_ | refine getAn2_a ?_ | refine lenE_a ?_ | refine lenR_a ?_ | refine cv8_a ?_ | refine cv64_a ?_ | fail))
  unfold Tbl.owned
  cases hr : T.chm id with
  | none =>
    simp only [Option.isSome_none]
    repeat (first | simp only [W0, pO, Option.map_some, Option.map_none] | with_reducible (first | refine lss_a ?_ | refine lss_b ?_ | refine gtr_a ?_ | refine gtr_b ?_ | refine geq_a ?_ | refine geq_b ?_ | refine leq_a ?_ | refine leq_b ?_ | refine eql_a ?_ | refine eql_b ?_ | refine neq_a ?_ | refine neq_b ?_ | refine add_a ?_ | refine sub_a ?_ | refine ld_a ?_ | refine ldA_a ?_ | refine ldS_a ?_ | refine ldNS_a ?_ | refine rdA_s ?_ | refine rd1_s ?_ | refine drew_a fun w1 H1 => ?_ | refine st_a fun w1 H1 => ?_ | refine stA_a fun w1 H1 => ?_ | refine lenT_a ?_ | refine lenO_a ?_ | refine ixT_a ?_ | refine ixO_a ?_ | refine bld_a ?_ | refine min_a ?_ | refine max_a ?_  | refine ldT_a ?_ | refine ldC_a ?_ | refine ldX_a ?_ | refine ldM_a ?_ | refine rdT_a ?_ | refine rdC_a ?_ | refine rdX_a ?_ | refine rdM_a ?_ | refine getCh_a ?_ | refine getCh2_a ?_ | refine getCn_a ?_ | refine getCn2_a ?_ | refine getPl_a ?_ | refine getPl2_a ?_ | refine getTk_a ?_ | refine getAn2_a ?_ | refine lenE_a ?_ | refine lenR_a ?_ | refine cv8_a ?_ | refine cv64_a ?_ | fail))
    exact ⟨(by first | rfl | trivial), Hp.tre (by assumption)⟩
  | some r =>
    obtain ⟨c, hc⟩ := hok r hr
    simp only [Option.isSome_some, hc, pO, Option.map_some]
    repeat (first | simp only [W0, pO, Option.map_some, Option.map_none] | with_reducible (first | refine lss_a ?_ | refine lss_b ?_ | refine gtr_a ?_ | refine gtr_b ?_ | refine geq_a ?_ | refine geq_b ?_ | refine leq_a ?_ | refine leq_b ?_ | refine eql_a ?_ | refine eql_b ?_ | refine neq_a ?_ | refine neq_b ?_ | refine add_a ?_ | refine sub_a ?_ | refine ld_a ?_ | refine ldA_a ?_ | refine ldS_a ?_ | refine ldNS_a ?_ | refine rdA_s ?_ | refine rd1_s ?_ | refine drew_a fun w1 H1 => ?_ | refine st_a fun w1 H1 => ?_ | refine stA_a fun w1 H1 => ?_ | refine lenT_a ?_ | refine lenO_a ?_ | refine ixT_a ?_ | refine ixO_a ?_ | refine bld_a ?_ | refine min_a ?_ | refine max_a ?_  | refine ldT_a ?_ | refine ldC_a ?_ | refine ldX_a ?_ | refine ldM_a ?_ | refine rdT_a ?_ | refine rdC_a ?_ | refine rdX_a ?_ | refine rdM_a ?_ | refine getCh_a ?_ | refine getCh2_a ?_ | refine getCn_a ?_ | refine getCn2_a ?_ | refine getPl_a ?_ | refine getPl2_a ?_ | refine getTk_a ?_ | refine getAn2_a ?_ | refine lenE_a ?_ | refine lenR_a ?_ | refine cv8_a ?_ | refine cv64_a ?_ | fail))
    try unfold F82_j1
    by_cases hp : c.pr = p
    · repeat (first | simp only [W0, pO, Option.map_some, Option.map_none] | with_reducible (first | refine lss_a ?_ | refine lss_b ?_ | refine gtr_a ?_ | refine gtr_b ?_ | refine geq_a ?_ | refine geq_b ?_ | refine leq_a ?_ | refine leq_b ?_ | refine eql_a ?_ | refine eql_b ?_ | refine neq_a ?_ | refine neq_b ?_ | refine add_a ?_ | refine sub_a ?_ | refine ld_a ?_ | refine ldA_a ?_ | refine ldS_a ?_ | refine ldNS_a ?_ | refine rdA_s ?_ | refine rd1_s ?_ | refine drew_a fun w1 H1 => ?_ | refine st_a fun w1 H1 => ?_ | refine stA_a fun w1 H1 => ?_ | refine lenT_a ?_ | refine lenO_a ?_ | refine ixT_a ?_ | refine ixO_a ?_ | refine bld_a ?_ | refine min_a ?_ | refine max_a ?_  | refine ldT_a ?_ | refine ldC_a ?_ | refine ldX_a ?_ | refine ldM_a ?_ | refine rdT_a ?_ | refine rdC_a ?_ | refine rdX_a ?_ | refine rdM_a ?_ | refine getCh_a ?_ | refine getCh2_a ?_ | refine getCn_a ?_ | refine getCn2_a ?_ | refine getPl_a ?_ | refine getPl2_a ?_ | refine getTk_a ?_ | refine getAn2_a ?_ | refine lenE_a ?_ | refine lenR_a ?_ | refine cv8_a ?_ | refine cv64_a ?_ | fail))
      rw [if_pos hp]
      exact ⟨(by first | rfl | trivial), Hp.tre (by assumption)⟩
    · repeat (first | simp only [W0, pO, Option.map_some, Option.map_none] | with_reducible (first | refine lss_a ?_ | refine lss_b ?_ | refine gtr_a ?_ | refine gtr_b ?_ | refine geq_a ?_ | refine geq_b ?_ | refine leq_a ?_ | refine leq_b ?_ | refine eql_a ?_ | refine eql_b ?_ | refine neq_a ?_ | refine neq_b ?_ | refine add_a ?_ | refine sub_a ?_ | refine ld_a ?_ | refine ldA_a ?_ | refine ldS_a ?_ | refine ldNS_a ?_ | refine rdA_s ?_ | refine rd1_s ?_ | refine drew_a fun w1 H1 => ?_ | refine st_a fun w1 H1 => ?_ | refine stA_a fun w1 H1 => ?_ | refine lenT_a ?_ | refine lenO_a ?_ | refine ixT_a ?_ | refine ixO_a ?_ | refine bld_a ?_ | refine min_a ?_ | refine max_a ?_  | refine ldT_a ?_ | refine ldC_a ?_ | refine ldX_a ?_ | refine ldM_a ?_ | refine rdT_a ?_ | refine rdC_a ?_ | refine rdX_a ?_ | refine rdM_a ?_ | refine getCh_a ?_ | refine getCh2_a ?_ | refine getCn_a ?_ | refine getCn2_a ?_ | refine getPl_a ?_ | refine getPl2_a ?_ | refine getTk_a ?_ | refine getAn2_a ?_ | refine lenE_a ?_ | refine lenR_a ?_ | refine cv8_a ?_ | refine cv64_a ?_ | fail))
      rw [if_neg hp]
      exact ⟨(by first | rfl | trivial), Hp.tre (by assumption)⟩
end
end Go.Proofs.YtmkcjopacmadhaaGreat.Den
