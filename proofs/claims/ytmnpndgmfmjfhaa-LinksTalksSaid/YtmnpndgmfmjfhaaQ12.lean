/- Links: talks of two links: a frame arrives, is lost, is changed; a step. Conditions: none. -/
import Derived.Lib.SmallJoins
import Derived.SizedLaws
import Derived.Test.YtmnpndgmfmjfhaaQ11
section
set_option linter.unusedVariables false
set_option linter.unusedSimpArgs false
set_option maxRecDepth 8000
namespace Go.Proofs.Ytmnpndgmfmjfhaa.Den
open Go Go.RowKit
def xorB (a b : Int) : Int := IntKind.u8.wrap ((BitVec.ofInt IntKind.u8.bits a ^^^ BitVec.ofInt IntKind.u8.bits b).toNat : Int)
theorem xor_eq (a b : Int) : bin .xor (U8 a) (U8 b) = some (U8 (xorB a b)) := rfl
/-- A byte changed. -/
def chgB (xs : List Int) (t : Nat) : List Int := xs.set (t % xs.length) (xorB (xs.getD (t % xs.length) 0) (1 + ((t % 7 : Nat) : Int)))
def q10 (kd : Int) : Nat := (u64 kd % 10).toNat
/-- A step of a talk. -/
def stepS (st : TS) (kd wh : Int) (t : Nat) (xs : List Int) : TS :=
  let now := st.now + ((t % 8 : Nat) : Int)
  let q := q10 kd
  let i := q % 2
  let k := if st.air.length = 0 then 0 else (u64 wh % (st.air.length : Int)).toNat
  if q < 2 then ⟨setF st.M i (sendM (st.M i) (xs.take 200) now), st.air, now, setF st.sent i (if sendE (st.M i) (xs.take 200) now = 0 then st.sent i ++ [xs.take 200] else st.sent i), st.got⟩
  else if q < 4 then ⟨setF st.M i (outM (st.M i) now), st.air ++ flOf (1 - i) (outV (st.M i) now), now, st.sent, st.got⟩
  else if 8 ≤ q then ⟨setF st.M i (setM (st.M i) (u64 wh % 3) (decide (t % 2 = 0))), st.air, now, st.sent, st.got⟩
  else match st.air[k]? with
    | none => { st with now := now }
    | some f => if q = 4 ∨ q = 6 then ⟨setF st.M f.to (inM (st.M f.to) f.wire f.by_ now), if q = 4 then st.air.eraseIdx k else st.air, now, st.sent, setF st.got f.to (st.got f.to ++ inV (st.M f.to) f.wire f.by_ now)⟩
      else if q = 5 then { st with air := st.air.eraseIdx k, now := now }
      else if q = 7 ∧ f.ch = false then { st with air := st.air.set k ⟨f.to, f.wire, chgB f.by_ t, true⟩, now := now }
      else { st with now := now }
section
variable {w w' : World} {w0 : Base} {F L : List Chunk} {R : ER}
theorem air_del {av : Value} {air : List Fl} {ca Da G : List Chunk} {sva : List Value} {k : Nat} (hA : AirP w0 av air ca Da sva) (hk : k < air.length) (H : Hp w0 w (ca ++ G)) :
    Calls Pg 60 ⟨[av, I (k : Int), I ((k + 1 : Nat) : Int)]⟩ w fun e w' => ∃ av' ca', e = .returned av' ∧ AirP w0 av' (air.eraseIdx k) ca' Da (sva.eraseIdx k) ∧ Hp w0 w' (ca' ++ G) := by
  obtain ⟨ba, cap, rest, rfl, rfl, g1, g2, g3⟩ := hA.sl.chunk (by omega)
  have hfl := fls_length (l := air) hA.svl
  have := DeleteF_spec (k := k) (b := ba) (cap := cap) (ls := fls air sva) (rest := rest) (F := G) (w := w) H (fls_len _ _) (fls_sc hA.sc) (by rw [hfl]; exact g2) (by rw [hfl]; exact g3) (by rw [hfl]; exact hk)
  rw [hfl] at this
  refine this.mono ?_
  rintro e w' ⟨rest', rfl, hr, H'⟩
  rw [fls_erase] at H'
  have hel : (air.eraseIdx k).length = air.length - 1 := List.length_eraseIdx_of_lt hk
  have hsl : (sva.eraseIdx k).length = air.length - 1 := by rw [List.length_eraseIdx_of_lt (by rw [hA.svl]; exact hk), hA.svl]
  refine ⟨_, [⟨ba, 132, (fls (air.eraseIdx k) (sva.eraseIdx k)).flatten ++ rest'⟩], rfl, ⟨?_, by rw [hel, hsl], ?_⟩, H'⟩
  · refine .inr ⟨ba, cap, rest', rfl, by rw [hel], ?_, by rw [hel]; omega, by rw [hel]; exact hr⟩
    rw [flat_length (sz := 4) (fls_len _ _), fls_length (by rw [hel, hsl])]
  · intro i f s hf hs
    rw [List.getElem?_eraseIdx] at hf hs
    split at hf
    · rename_i h
      rw [if_pos h] at hs
      exact hA.dat i f s hf hs
    · rename_i h
      rw [if_neg h] at hs
      exact hA.dat _ f s hf hs
/-- An element of the air. -/
theorem air_ix {av s : Value} {air : List Fl} {ca Da : List Chunk} {sva : List Value} {k : Nat} {f : Fl} {K : VK} (hA : AirP w0 av air ca Da sva) (hf : air[k]? = some f) (hs : sva[k]? = some s) (H : Hp w0 w L) (m : ∀ c ∈ ca, c ∈ L) (kk : K (.agg ⟨fcell f s⟩) w) :
    pv (ixS 4 av (.int .i64 (k : Int))) (fun p => ldN 4 p K) w := by
  have hk := (List.getElem?_eq_some_iff.1 hf).1
  obtain ⟨ba, cap, rest, e, rfl, g1, g2, g3⟩ := hA.sl.chunk (by omega)
  rw [ixS_mk hk]
  simp only [WKt, mem, drewV]
  have hmem : (⟨ba, 132, (fls air sva).flatten ++ rest⟩ : Chunk) ∈ L := m _ (by rw [e]; simp)
  have hfl : (fls air sva).flatten.length = air.length * 4 := by rw [flat_length (sz := 4) (fls_len _ _), fls_length hA.svl]
  refine ldN_blk (H.blk _ hmem).2 (by show _ ≤ ((fls air sva).flatten ++ rest).length; rw [List.length_append, hfl]; omega) ?_
  rw [show ((({ b := ba, t := 132, l := (fls air sva).flatten ++ rest } : Chunk).l).drop (k * 4)).take 4 = fcell f s from flat_part (fls_len _ _) (fls_get hf hs)]
  exact kk
structure FlOk (f : Fl) : Prop where
  to : f.to < 2
  ne : 0 < f.by_.length
  len : f.by_.length < 2 ^ 30
  by_ : 0 ≤ dB f.by_
theorem tk_arr {tb vb n k q : Nat} {st : TS} {l : List Value} {f : Fl} (hT : TkM w0 tb n st L) (hn : n < 9000) (hf : st.air[k]? = some f) (hok : FlOk f) (hgl : (st.got f.to).length < 2 ^ 20) (hal : st.air.length < 2 ^ 29) (H : Hp w0 w (L ++ (⟨vb, 85, l⟩ :: F)))
    (kk : ∀ w' L', TkM w0 tb (n + 1) ⟨setF st.M f.to (inM (st.M f.to) f.wire f.by_ st.now), if q = 4 then st.air.eraseIdx k else st.air, st.now, setF st.sent f.to (st.sent f.to), setF st.got f.to (st.got f.to ++ inV (st.M f.to) f.wire f.by_ st.now)⟩ L' → Hp w0 w' (L' ++ (⟨vb, 85, l⟩ :: F)) → R (.returned (.bool true)) w') :
    F33_j23 R (ptr tb 0) (I (q : Int)) (I (k : Int)) w := by
  obtain ⟨b, r, La, Lb, av, ca, Da, sva, ss, gs, cs, Ds, cg, Dg, svs, svg, X, hB, hA, hS, hG, H, close⟩ := tk_open hT H hok.to
  have hk := (List.getElem?_eq_some_iff.1 hf).1
  obtain ⟨s, hs⟩ : ∃ s, sva[k]? = some s := ⟨_, List.getElem?_eq_getElem (by rw [hA.svl]; exact hk)⟩
  unfold F33_j23
  try simp only [WKt, mem, drewV]
  refine ld_h H 0 rfl (o := 4) rfl ?_
  refine air_ix hA hf hs H (fun c hc => by simp [hc]) ?_
  have H1 : Hp w0 w (⟨tb, 39, tkL b r av st.now ss gs⟩ :: (La ++ (Lb ++ (cg ++ (Dg ++ (Da ++ (ca ++ (cs ++ (Ds ++ (X ++ (⟨vb, 85, l⟩ :: F))))))))))) := H.to (by intro f; simp only [I, U8, U64, ptr, List.set_cons_zero, List.set_cons_succ, List.eraseIdx_cons_zero, List.eraseIdx_cons_succ, List.map_append, List.map_cons, List.map_nil, List.sum_append, List.sum_cons, List.sum_nil]; omega)
  refine cal_h (arrive_spec hok.to hB (by omega) hG hgl (hA.dat k f s hf hs) hok.len hok.by_ H1) ?_
  rintro _ w2 ⟨rfl, La', Lb', g', cg', Dg', svg', hB', hG', H2⟩
  try simp only [WKt, mem, drewV]
  unfold F33_j25
  by_cases h4 : q = 4
  · rw [if_pos h4] at kk
    subst h4
    simp only [show ((4 : Nat) : Int) = 4 from rfl, decide_true, WKt, mem, drewV]
    refine ld_h H2 0 rfl (o := 4) rfl ?_
    rw [wrap64_id (by omega) (by omega), show (k : Int) + 1 = ((k + 1 : Nat) : Int) from by omega]
    have H3 : Hp w0 w2 (ca ++ (⟨tb, 39, tkL b r av st.now ss (setF gs f.to g')⟩ :: (La' ++ (Lb' ++ (cg' ++ (Dg' ++ (Da ++ (cs ++ (Ds ++ (X ++ (⟨vb, 85, l⟩ :: F))))))))))) := H2.to (by intro f; simp only [I, U8, U64, ptr, List.set_cons_zero, List.set_cons_succ, List.eraseIdx_cons_zero, List.eraseIdx_cons_succ, List.map_append, List.map_cons, List.map_nil, List.sum_append, List.sum_cons, List.sum_nil]; omega)
    refine cal_h (air_del hA hk H3) ?_
    rintro _ w3 ⟨av', ca', rfl, hA', H4⟩
    try simp only [WKt, mem, drewV]
    have H4' : Hp w0 w3 (⟨tb, 39, tkL b r av st.now ss (setF gs f.to g')⟩ :: (ca' ++ (La' ++ (Lb' ++ (cg' ++ (Dg' ++ (Da ++ (cs ++ (Ds ++ (X ++ (⟨vb, 85, l⟩ :: F))))))))))) := H4.to (by intro f; simp only [I, U8, U64, ptr, List.set_cons_zero, List.set_cons_succ, List.eraseIdx_cons_zero, List.eraseIdx_cons_succ, List.map_append, List.map_cons, List.map_nil, List.sum_append, List.sum_cons, List.sum_nil]; omega)
    refine st_h H4' 0 rfl (by rw [tk_len]; omega) (sl_sc hA'.sl) fun w5 H5 => ?_
    simp only [List.set_cons_zero] at H5
    rw [tkL_air] at H5
    unfold F33_j24
    have H6 : Hp w0 w5 (⟨tb, 39, tkL b r av' st.now (setF ss f.to (ss f.to)) (setF gs f.to g')⟩ :: (ca' ++ (Da ++ (La' ++ (Lb' ++ (cs ++ (Ds ++ (cg' ++ (Dg' ++ (X ++ (⟨vb, 85, l⟩ :: F))))))))))) := by rw [setF_same]; exact H5.to (by intro f; simp only [I, U8, U64, ptr, List.set_cons_zero, List.set_cons_succ, List.eraseIdx_cons_zero, List.eraseIdx_cons_succ, List.map_append, List.map_cons, List.map_nil, List.sum_append, List.sum_cons, List.sum_nil]; omega)
    obtain ⟨L', hT', H7⟩ := close w5 (n + 1) _ La' Lb' av' (st.air.eraseIdx k) ca' Da (sva.eraseIdx k) st.now (ss f.to) g' (st.sent f.to) _ cs Ds cg' Dg' svs svg' (⟨vb, 85, l⟩ :: F) (by omega) hB' hA' hS hG' H6
    exact kk w5 L' hT' H7
  · rw [if_neg h4] at kk
    simp only [decide_eq_false (show ¬ ((q : Int) = 4) from by omega), WKt, mem, drewV]
    unfold F33_j24
    have H6 : Hp w0 w2 (⟨tb, 39, tkL b r av st.now (setF ss f.to (ss f.to)) (setF gs f.to g')⟩ :: (ca ++ (Da ++ (La' ++ (Lb' ++ (cs ++ (Ds ++ (cg' ++ (Dg' ++ (X ++ (⟨vb, 85, l⟩ :: F))))))))))) := by rw [setF_same]; exact H2.to (by intro f; simp only [I, U8, U64, ptr, List.set_cons_zero, List.set_cons_succ, List.eraseIdx_cons_zero, List.eraseIdx_cons_succ, List.map_append, List.map_cons, List.map_nil, List.sum_append, List.sum_cons, List.sum_nil]; omega)
    obtain ⟨L', hT', H7⟩ := close w2 (n + 1) _ La' Lb' av st.air ca Da sva st.now (ss f.to) g' (st.sent f.to) _ cs Ds cg' Dg' svs svg' (⟨vb, 85, l⟩ :: F) (by omega) hB' hA hS hG' H6
    exact kk w2 L' hT' H7
theorem tk_drop {tb vb n k : Nat} {st : TS} {l : List Value} (hT : TkM w0 tb n st L) (hn : n < 9000) (hk : k < st.air.length) (hal : st.air.length < 2 ^ 29) (H : Hp w0 w (L ++ (⟨vb, 85, l⟩ :: F)))
    (kk : ∀ w' L', TkM w0 tb (n + 1) { st with air := st.air.eraseIdx k } L' → Hp w0 w' (L' ++ (⟨vb, 85, l⟩ :: F)) → R (.returned (.bool true)) w') :
    F33_j28 R (ptr tb 0) (I (k : Int)) w := by
  obtain ⟨b, r, La, Lb, av, ca, Da, sva, ss, gs, cs, Ds, cg, Dg, svs, svg, X, hB, hA, hS, hG, H, close⟩ := tk_open hT H (i := 0) (by decide)
  unfold F33_j28
  try simp only [WKt, mem, drewV]
  refine ld_h H 0 rfl (o := 4) rfl ?_
  rw [wrap64_id (by omega) (by omega), show (k : Int) + 1 = ((k + 1 : Nat) : Int) from by omega]
  have H3 : Hp w0 w (ca ++ (⟨tb, 39, tkL b r av st.now ss gs⟩ :: (Da ++ (La ++ (Lb ++ (cs ++ (Ds ++ (cg ++ (Dg ++ (X ++ (⟨vb, 85, l⟩ :: F))))))))))) := H.to (by intro f; simp only [I, U8, U64, ptr, List.set_cons_zero, List.set_cons_succ, List.eraseIdx_cons_zero, List.eraseIdx_cons_succ, List.map_append, List.map_cons, List.map_nil, List.sum_append, List.sum_cons, List.sum_nil]; omega)
  refine cal_h (air_del hA hk H3) ?_
  rintro _ w3 ⟨av', ca', rfl, hA', H4⟩
  try simp only [WKt, mem, drewV]
  have H4' : Hp w0 w3 (⟨tb, 39, tkL b r av st.now ss gs⟩ :: (ca' ++ (Da ++ (La ++ (Lb ++ (cs ++ (Ds ++ (cg ++ (Dg ++ (X ++ (⟨vb, 85, l⟩ :: F))))))))))) := H4.to (by intro f; simp only [I, U8, U64, ptr, List.set_cons_zero, List.set_cons_succ, List.eraseIdx_cons_zero, List.eraseIdx_cons_succ, List.map_append, List.map_cons, List.map_nil, List.sum_append, List.sum_cons, List.sum_nil]; omega)
  refine st_h H4' 0 rfl (by rw [tk_len]; omega) (sl_sc hA'.sl) fun w5 H5 => ?_
  simp only [List.set_cons_zero] at H5
  rw [tkL_air] at H5
  have H6 : Hp w0 w5 (⟨tb, 39, tkL b r av' st.now (setF ss 0 (ss 0)) (setF gs 0 (gs 0))⟩ :: (ca' ++ (Da ++ (La ++ (Lb ++ (cs ++ (Ds ++ (cg ++ (Dg ++ (X ++ (⟨vb, 85, l⟩ :: F))))))))))) := by rw [setF_same, setF_same]; exact H5
  obtain ⟨L', hT', H7⟩ := close w5 (n + 1) (st.M 0) La Lb av' (st.air.eraseIdx k) ca' Da (sva.eraseIdx k) st.now (ss 0) (gs 0) (st.sent 0) (st.got 0) cs Ds cg Dg svs svg (⟨vb, 85, l⟩ :: F) (by omega) (hB.mono (by omega)) hA' hS hG H6
  rw [setF_same, setF_same, setF_same] at hT'
  exact tk_seen hT' (by omega) H7 fun w' H8 => kk w' L' hT' H8
theorem tk_chg {tb vb n k t : Nat} {st : TS} {kd wh : Int} {s0 : Value} {f : Fl} (hT : TkM w0 tb n st L) (hn : n < 9000) (hf : st.air[k]? = some f) (hok : FlOk f) (hal : st.air.length < 2 ^ 29) (ht : t < 256) (H : Hp w0 w (L ++ (⟨vb, 85, [I kd, I wh, .int .u8 (t : Int), s0]⟩ :: F)))
    (kk : ∀ w' L', TkM w0 tb (n + 1) { st with air := st.air.set k ⟨f.to, f.wire, chgB f.by_ t, true⟩ } L' → Hp w0 w' (L' ++ F) → R (.returned (.bool true)) w') :
    F33_j31 R (ptr tb 0) (ptr vb 0) (I (k : Int)) w := by
  obtain ⟨b, r, La, Lb, av, ca, Da, sva, ss, gs, cs, Ds, cg, Dg, svs, svg, X, hB, hA, hS, hG, H, close⟩ := tk_open hT H (i := 0) (by decide)
  have hk := (List.getElem?_eq_some_iff.1 hf).1
  obtain ⟨s, hs⟩ : ∃ s, sva[k]? = some s := ⟨_, List.getElem?_eq_getElem (by rw [hA.svl]; exact hk)⟩
  have hd := hA.dat k f s hf hs
  have hsc := (rd_cells hd).2
  have hne := hok.ne
  have hlen := hok.len
  unfold F33_j31
  try simp only [WKt, mem, drewV]
  refine ld_h H 0 rfl (o := 4) rfl ?_
  refine air_ix hA hf hs H (fun c hc => by simp [hc]) ?_
  refine al_h H (z := [I 0, I 0, .slice none 0 0, .bool false]) (by kernel_rfl) fun w1 fb H1 => ?_
  refine stA_h H1 0 rfl rfl rfl (by intro c hc; simp [fcell] at hc; rcases hc with rfl | rfl | rfl | rfl <;> first | rfl | exact hsc) fun w2 H2 => ?_
  simp only [List.set_cons_zero] at H2
  try simp only [WKt, mem, drewV]
  refine ld_h H2 0 rfl (o := 2) (v := s) rfl ?_
  refine cal_h (Clone_spec (hd.mono fun c hc => by simp [hc]) (by omega) H2) ?_
  rintro _ w3 ⟨s', c1, rfl, H3, hs1⟩
  try simp only [WKt, mem, drewV]
  obtain ⟨cb, cap, rest, rfl, rfl, g1, g2, g3⟩ := hs1.chunk hne
  have H3' : Hp w0 w3 (⟨fb, 132, fcell f s⟩ :: ⟨cb, 5, bv f.by_ ++ rest⟩ :: ⟨vb, 85, [I kd, I wh, .int .u8 (t : Int), s0]⟩ :: ⟨tb, 39, tkL b r av st.now ss gs⟩ :: (ca ++ (Da ++ (La ++ (Lb ++ (cs ++ (Ds ++ (cg ++ (Dg ++ (X ++ F)))))))))) := H3.to (by intro f; simp only [I, U8, U64, ptr, List.set_cons_zero, List.set_cons_succ, List.eraseIdx_cons_zero, List.eraseIdx_cons_succ, List.map_append, List.map_cons, List.map_nil, List.sum_append, List.sum_cons, List.sum_nil]; omega)
  refine st_h H3' 0 rfl (by simp [fcell]) rfl fun w4 H4 => ?_
  try simp only [WKt, mem, drewV]
  refine st_h H4 0 rfl (by simp [fcell]) rfl fun w5 H5 => ?_
  have H5 : Hp w0 w5 (⟨fb, 132, [I (f.to : Int), I f.wire, .slice (some ⟨cb, 0, none⟩) f.by_.length cap, .bool true]⟩ :: ⟨cb, 5, bv f.by_ ++ rest⟩ :: ⟨vb, 85, [I kd, I wh, .int .u8 (t : Int), s0]⟩ :: ⟨tb, 39, tkL b r av st.now ss gs⟩ :: (ca ++ (Da ++ (La ++ (Lb ++ (cs ++ (Ds ++ (cg ++ (Dg ++ (X ++ F)))))))))) := H5
  have H6 := H5.drew
  try simp only [WKt, mem, drewV]
  refine ld_h H6 0 rfl rfl ?_
  refine ld_h H6 2 rfl rfl ?_
  rw [cvI64, i64, wrap64_id (by omega) (by omega)]
  try simp only [WKt, mem, drewV]
  refine ld_h H6 0 rfl rfl ?_
  try simp only [WKt, mem, drewV]
  have hm : t % f.by_.length < f.by_.length := Nat.mod_lt _ hne
  have er : bin .rem (I (t : Int)) (I (f.by_.length : Int)) = some (I ((t % f.by_.length : Nat) : Int)) := by rw [bin_rem (by omega)]; rfl
  rw [er]
  try simp only [WKt, mem, drewV]
  rw [ixS_mk hm]
  try simp only [WKt, mem, drewV]
  have hget : (bv f.by_ ++ rest)[t % f.by_.length]? = some (U8 (f.by_.getD (t % f.by_.length) 0)) := by
    rw [List.getElem?_append_left (by rw [bv_length]; exact hm)]
    simp [bv, hm, List.getD]
  refine ld_h H6 1 rfl hget ?_
  refine ld_h H6 2 rfl rfl ?_
  have e7 : bin .rem (.int .u8 (t : Int)) (.int .u8 7) = some (.int .u8 ((t % 7 : Nat) : Int)) := by rw [bin_rem (by decide)]; rfl
  rw [e7]
  try simp only [WKt, mem, drewV]
  have h7 : t % 7 < 7 := Nat.mod_lt _ (by decide)
  rw [show IntKind.u8.wrap (1 + ((t % 7 : Nat) : Int)) = 1 + ((t % 7 : Nat) : Int) from by rw [wrapU8]; omega]
  rw [xor_eq]
  try simp only [WKt, mem, drewV]
  refine st_h H6 1 rfl (by rw [List.length_append, bv_length]; omega) rfl fun w7 H7 => ?_
  have hset : (bv f.by_ ++ rest).set (t % f.by_.length) (U8 (xorB (f.by_.getD (t % f.by_.length) 0) (1 + ((t % 7 : Nat) : Int)))) = bv (chgB f.by_ t) ++ rest := by
    rw [List.set_append_left _ _ (by rw [bv_length]; exact hm)]
    unfold chgB bv
    rw [List.map_set]
  have hcl : (chgB f.by_ t).length = f.by_.length := by unfold chgB; rw [List.length_set]
  have H7 : Hp w0 w7 (⟨fb, 132, [I (f.to : Int), I f.wire, .slice (some ⟨cb, 0, none⟩) f.by_.length cap, .bool true]⟩ :: ⟨cb, 5, bv (chgB f.by_ t) ++ rest⟩ :: ⟨vb, 85, [I kd, I wh, .int .u8 (t : Int), s0]⟩ :: ⟨tb, 39, tkL b r av st.now ss gs⟩ :: (ca ++ (Da ++ (La ++ (Lb ++ (cs ++ (Ds ++ (cg ++ (Dg ++ (X ++ F)))))))))) := by rw [← hset]; exact H7
  have H8 := H7.drew
  try simp only [WKt, mem, drewV]
  refine ld_h H8 3 rfl (o := 4) rfl ?_
  refine ldA_h H8 0 rfl rfl ?_
  obtain ⟨ba, cap2, rest2, rfl, rfl, k1, k2, k3⟩ := hA.sl.chunk (by omega)
  rw [ixS_mk hk]
  try simp only [WKt, mem, drewV]
  have hfl : (fls st.air sva).flatten.length = st.air.length * 4 := by rw [flat_length (sz := 4) (fls_len _ _), fls_length hA.svl]
  have H9 : Hp w0 w7.drew (⟨ba, 132, (fls st.air sva).flatten ++ rest2⟩ :: ⟨fb, 132, [I (f.to : Int), I f.wire, .slice (some ⟨cb, 0, none⟩) f.by_.length cap, .bool true]⟩ :: ⟨cb, 5, bv (chgB f.by_ t) ++ rest⟩ :: ⟨vb, 85, [I kd, I wh, .int .u8 (t : Int), s0]⟩ :: ⟨tb, 39, tkL b r (.slice (some ⟨ba, 0, none⟩) st.air.length cap2) st.now ss gs⟩ :: (Da ++ (La ++ (Lb ++ (cs ++ (Ds ++ (cg ++ (Dg ++ (X ++ F))))))))) := H8.to (by intro f; simp only [I, U8, U64, ptr, List.set_cons_zero, List.set_cons_succ, List.eraseIdx_cons_zero, List.eraseIdx_cons_succ, List.map_append, List.map_cons, List.map_nil, List.sum_append, List.sum_cons, List.sum_nil]; omega)
  refine stN_h (cs := ⟨[I (f.to : Int), I f.wire, .slice (some ⟨cb, 0, none⟩) f.by_.length cap, .bool true]⟩) H9 0 rfl rfl (by rw [List.length_append, hfl]; omega) (by intro c hc; simp at hc; rcases hc with rfl | rfl | rfl | rfl <;> rfl) fun w10 H10 => ?_
  simp only [List.set_cons_zero] at H10
  have el : lay ((fls st.air sva).flatten ++ rest2) (k * 4) [I (f.to : Int), I f.wire, .slice (some ⟨cb, 0, none⟩) f.by_.length cap, .bool true] = (fls (st.air.set k ⟨f.to, f.wire, chgB f.by_ t, true⟩) (sva.set k (.slice (some ⟨cb, 0, none⟩) f.by_.length cap))).flatten ++ rest2 := by
    rw [lay_set (fls_len _ _) (by rw [fls_length hA.svl]; exact hk) rfl, ← fls_set]; rfl
  rw [el] at H10
  have hA' : AirP w0 (.slice (some ⟨ba, 0, none⟩) st.air.length cap2) (st.air.set k ⟨f.to, f.wire, chgB f.by_ t, true⟩) [⟨ba, 132, (fls (st.air.set k ⟨f.to, f.wire, chgB f.by_ t, true⟩) (sva.set k (.slice (some ⟨cb, 0, none⟩) f.by_.length cap))).flatten ++ rest2⟩] (⟨cb, 5, bv (chgB f.by_ t) ++ rest⟩ :: Da) (sva.set k (.slice (some ⟨cb, 0, none⟩) f.by_.length cap)) := by
    refine ⟨.inr ⟨ba, cap2, rest2, rfl, by simp, ?_, by simpa using k2, by simpa using k3⟩, by simp [hA.svl], ?_⟩
    · rw [flat_length (sz := 4) (fls_len _ _), fls_length (by simp [hA.svl])]
    · intro i g u hg hu
      by_cases hik : k = i
      · subst hik
        rw [List.getElem?_set_self hk] at hg
        rw [List.getElem?_set_self (by rw [hA.svl]; exact hk)] at hu
        injection hg with hg; injection hu with hu
        subst hg; subst hu
        refine .inr ⟨cb, 0, cap, 5, bv (chgB f.by_ t) ++ rest, by rw [hcl], by rw [hcl]; exact g2, by simp, by show 0 + (chgB f.by_ t).length * 1 ≤ _; rw [List.length_append, bv_length]; omega, ?_⟩
        show bv (chgB f.by_ t) = _
        rw [List.drop_zero, Nat.mul_one, List.take_append_of_le_length (by rw [bv_length]; exact Nat.le_refl _), List.take_of_length_le (by rw [bv_length]; exact Nat.le_refl _)]
      · rw [List.getElem?_set_ne hik] at hg hu
        exact (hA.dat i g u hg hu).mono fun c hc => by simp [hc]
  have H11 : Hp w0 w10 (⟨tb, 39, tkL b r (.slice (some ⟨ba, 0, none⟩) st.air.length cap2) st.now (setF ss 0 (ss 0)) (setF gs 0 (gs 0))⟩ :: ([⟨ba, 132, (fls (st.air.set k ⟨f.to, f.wire, chgB f.by_ t, true⟩) (sva.set k (.slice (some ⟨cb, 0, none⟩) f.by_.length cap))).flatten ++ rest2⟩] ++ ((⟨cb, 5, bv (chgB f.by_ t) ++ rest⟩ :: Da) ++ (La ++ (Lb ++ (cs ++ (Ds ++ (cg ++ (Dg ++ (X ++ F)))))))))) := by rw [setF_same, setF_same]; exact H10.to (by intro f; simp only [I, U8, U64, ptr, List.set_cons_zero, List.set_cons_succ, List.eraseIdx_cons_zero, List.eraseIdx_cons_succ, List.map_append, List.map_cons, List.map_nil, List.sum_append, List.sum_cons, List.sum_nil]; omega)
  obtain ⟨L', hT', H12⟩ := close w10 (n + 1) (st.M 0) La Lb _ (st.air.set k ⟨f.to, f.wire, chgB f.by_ t, true⟩) _ _ _ st.now (ss 0) (gs 0) (st.sent 0) (st.got 0) cs Ds cg Dg svs svg F (by omega) (hB.mono (by omega)) hA' hS hG H11
  rw [setF_same, setF_same, setF_same] at hT'
  exact tk_seen hT' (by omega) H12 fun w' H13 => kk w' L' hT' H13
theorem tk_now {tb n : Nat} {st : TS} (hT : TkM w0 tb n st L) : ∃ av l rest, L = ⟨tb, 39, l⟩ :: rest ∧ l.length = 10 ∧ l[4]? = some av ∧ lenS av = some (I (st.air.length : Int)) ∧ l[5]? = some (I st.now) ∧ ∀ now', TkM w0 tb n { st with now := now' } (⟨tb, 39, l.set 5 (I now')⟩ :: rest) := by
  obtain ⟨b, r, La, Lb, av, ca, Da, sva, ss, gs, cs, Ds, cg, Dg, svs, svg, hB, hA, hS, hG, rfl⟩ := hT
  exact ⟨av, _, _, rfl, rfl, rfl, lenS_sl hA.sl, rfl, fun now' => ⟨b, r, La, Lb, av, ca, Da, sva, ss, gs, cs, Ds, cg, Dg, svs, svg, hB, hA, hS, hG, rfl⟩⟩
theorem tk_step {tb n t : Nat} {st : TS} {kd wh : Int} {s : Value} {xs : List Int} (hT : TkM w0 tb n st L) (hn : n < 9000) (ht : t < 256) (hs : RdL w0 [] 1 s xs.length (bv xs)) (hok : ∀ f ∈ st.air, FlOk f) (hal : st.air.length < 2 ^ 28) (hgl : ∀ i, i < 2 → (st.got i).length < 2 ^ 20 ∧ (st.sent i).length < 2 ^ 20) (hnow : 0 ≤ st.now ∧ st.now < 2 ^ 60)
    (H : Hp w0 w (L ++ F)) :
    Calls Pg 33 ⟨[ptr tb 0, .agg ⟨[I kd, I wh, .int .u8 (t : Int), s]⟩]⟩ w fun e w' => e = .returned (.bool true) ∧ ∃ L', TkM w0 tb (n + 1) (stepS st kd wh t xs) L' ∧ Hp w0 w' (L' ++ F) := by
  apply F33_calls
  unfold F33
  refine bxa_h H fun w1 vb H1 => ?_
  generalize hvl : ([I kd, I wh, .int .u8 (t : Int), s] : List Value) = vl at H1
  have l0 : vl[0]? = some (I kd) := by rw [← hvl]; rfl
  have l1 : vl[1]? = some (I wh) := by rw [← hvl]; rfl
  have l2 : vl[2]? = some (.int .u8 (t : Int)) := by rw [← hvl]; rfl
  have l3 : vl[3]? = some s := by rw [← hvl]; rfl
  obtain ⟨av, l, rest, rfl, ll, e4, eav, e5, hnw⟩ := tk_now hT
  have H2 : Hp w0 w1.drew (⟨vb, 85, vl⟩ :: ⟨tb, 39, l⟩ :: (rest ++ F)) := H1.drew.to (by intro f; simp only [I, U8, U64, ptr, List.set_cons_zero, List.set_cons_succ, List.eraseIdx_cons_zero, List.eraseIdx_cons_succ, List.map_append, List.map_cons, List.map_nil, List.sum_append, List.sum_cons, List.sum_nil]; omega)
  try simp only [WKt, mem, drewV]
  refine ld_h H2 1 rfl e5 ?_
  refine ld_h H2 0 rfl l2 ?_
  have et : bin .rem (.int .u8 (t : Int)) (.int .u8 8) = some (.int .u8 ((t % 8 : Nat) : Int)) := by rw [bin_rem (by decide)]; rfl
  have h8 : t % 8 < 8 := Nat.mod_lt _ (by decide)
  rw [et]
  try simp only [WKt, mem, drewV]
  rw [cvI64, i64, wrap64_id (by omega) (by omega)]
  try simp only [WKt, mem, drewV]
  rw [wrap64_id (by omega) (by omega)]
  generalize hnow' : st.now + ((t % 8 : Nat) : Int) = now
  refine st_h H2 1 rfl (by omega) rfl fun w3 H3 => ?_
  simp only [List.set_cons_succ, List.set_cons_zero] at H3
  have hT3 := hnw now
  try simp only [WKt, mem, drewV]
  refine ld_h H3 0 rfl l0 ?_
  rw [cvU64]
  try simp only [WKt, mem, drewV]
  have hu : 0 ≤ u64 kd := Int.emod_nonneg _ (by decide)
  have hu2 : 0 ≤ u64 wh := Int.emod_nonneg _ (by decide)
  have e10 : (u64 kd).tmod 10 = ((q10 kd : Nat) : Int) := by rw [Int.tmod_eq_emod_of_nonneg hu]; unfold q10; omega
  have hq10 : q10 kd < 10 := by unfold q10; omega
  rw [bin_rem (by decide), e10]
  try simp only [WKt, mem, drewV]
  rw [cvI64, i64, wrap64_id (by omega) (by omega)]
  try simp only [WKt, mem, drewV]
  have eq2 : bin .rem (I ((q10 kd : Nat) : Int)) (.int .i64 2) = some (I ((q10 kd % 2 : Nat) : Int)) := by rw [bin_rem (by decide)]; rfl
  rw [eq2]
  try simp only [WKt, mem, drewV]
  have hres : stepS st kd wh t xs = stepS st kd wh t xs := rfl
  conv at hres => rhs; unfold stepS; simp only [hnow']
  generalize hq : q10 kd = q at hq10 hres
  have hi : q % 2 < 2 := Nat.mod_lt _ (by decide)
  -- where the frame stands
  generalize hk : (if st.air.length = 0 then 0 else (u64 wh % (st.air.length : Int)).toNat) = k at hres
  have hkl : 0 < st.air.length → k < st.air.length := by
    intro h
    rw [← hk, if_neg (by omega)]
    have := Int.emod_lt_of_pos (u64 wh) (show (0 : Int) < (st.air.length : Int) by omega)
    have := Int.emod_nonneg (u64 wh) (show (st.air.length : Int) ≠ 0 by omega)
    omega
  have H3' : Hp w0 w3 ((⟨tb, 39, l.set 5 (I now)⟩ :: rest) ++ (⟨vb, 85, vl⟩ :: F)) := H3.to (by intro f; simp only [I, U8, U64, ptr, List.set_cons_zero, List.set_cons_succ, List.eraseIdx_cons_zero, List.eraseIdx_cons_succ, List.map_append, List.map_cons, List.map_nil, List.sum_append, List.sum_cons, List.sum_nil]; omega)
  have fin : ∀ {w : World} {st' : TS} {L' : List Chunk}, stepS st kd wh t xs = st' → TkM w0 tb (n + 1) st' L' → Hp w0 w (L' ++ (⟨vb, 85, vl⟩ :: F)) → (Ending.returned (.bool true) = .returned (.bool true) ∧ ∃ L', TkM w0 tb (n + 1) (stepS st kd wh t xs) L' ∧ Hp w0 w (L' ++ F)) := by
    intro w st' L' e hT' H'
    exact ⟨rfl, L', by rw [e]; exact hT', H'.to (by intro f; simp only [I, U8, U64, ptr, List.set_cons_zero, List.set_cons_succ, List.eraseIdx_cons_zero, List.eraseIdx_cons_succ, List.map_append, List.map_cons, List.map_nil, List.sum_append, List.sum_cons, List.sum_nil]; omega)⟩
  have seen : ∀ {w : World}, stepS st kd wh t xs = { st with now := now } → Hp w0 w ((⟨tb, 39, l.set 5 (I now)⟩ :: rest) ++ (⟨vb, 85, vl⟩ :: F)) → F33_j2 (fun e w' => e = .returned (.bool true) ∧ ∃ L', TkM w0 tb (n + 1) (stepS st kd wh t xs) L' ∧ Hp w0 w' (L' ++ F)) (ptr tb 0) w := by
    intro w e H
    have hT3' : TkM w0 tb (n + 1) { st with now := now } (⟨tb, 39, l.set 5 (I now)⟩ :: rest) := by
      obtain ⟨b, r, La, Lb, av, ca, Da, sva, ss, gs, cs, Ds, cg, Dg, svs, svg, hB, hA, hS, hG, e⟩ := hT3
      exact ⟨b, r, La, Lb, av, ca, Da, sva, ss, gs, cs, Ds, cg, Dg, svs, svg, fun i hi => (hB i hi).mono (by omega), hA, hS, hG, e⟩
    exact tk_seen hT3' (by omega) H fun w' H' => fin e hT3' H'
  have main : ∀ {w : World}, Hp w0 w ((⟨tb, 39, l.set 5 (I now)⟩ :: rest) ++ (⟨vb, 85, vl⟩ :: F)) → F33_j1 (fun e w' => e = .returned (.bool true) ∧ ∃ L', TkM w0 tb (n + 1) (stepS st kd wh t xs) L' ∧ Hp w0 w' (L' ++ F)) (ptr tb 0) (ptr vb 0) (I (q : Int)) (I ((q % 2 : Nat) : Int)) (I (k : Int)) w := by
    intro w H
    unfold F33_j1 F33_j3
    try simp only [WKt, mem, drewV]
    unfold F33_j4
    by_cases q2 : q < 2
    · simp only [decide_eq_true (show (q : Int) < 2 by omega), WKt, mem, drewV]
      rw [if_pos q2] at hres
      refine tk_send hT3 hn hi hs (hgl _ hi).2 l3 H fun w' L' hT' H' => fin (L' := L') hres ?_ H'
      rw [setF_same st.got] at hT'
      exact hT'
    rw [if_neg q2] at hres
    simp only [decide_eq_false (show ¬ (q : Int) < 2 by omega), WKt, mem, drewV]
    unfold F33_j10
    try simp only [WKt, mem, drewV]
    unfold F33_j11
    by_cases q4 : q < 4
    · simp only [decide_eq_true (show (q : Int) < 4 by omega), WKt, mem, drewV]
      rw [if_pos q4] at hres
      refine tk_out hT3 hn hi hal H fun w' L' hT' H' => fin (L' := L') hres ?_ H'
      rw [setF_same st.got, setF_same st.sent] at hT'
      exact hT'
    rw [if_neg q4] at hres
    simp only [decide_eq_false (show ¬ (q : Int) < 4 by omega), WKt, mem, drewV]
    unfold F33_j16
    try simp only [WKt, mem, drewV]
    unfold F33_j17
    by_cases q8 : 8 ≤ q
    · simp only [decide_eq_true (show (8 : Int) ≤ (q : Int) by omega), WKt, mem, drewV]
      rw [if_pos q8] at hres
      rw [← hvl] at H fin
      refine tk_set (s := s) (kd := kd) hT3 hn hi ht H fun w' L' hT' H' => fin (L' := L') hres ?_ H'
      rw [setF_same st.got, setF_same st.sent] at hT'
      exact hT'
    rw [if_neg q8] at hres
    simp only [decide_eq_false (show ¬ (8 : Int) ≤ (q : Int) by omega), WKt, mem, drewV]
    unfold F33_j19
    try simp only [WKt, mem, drewV]
    have e4' : (l.set 5 (I now))[4]? = some av := by rw [List.getElem?_set_ne (by decide)]; exact e4
    have H' : Hp w0 w (⟨tb, 39, l.set 5 (I now)⟩ :: (rest ++ (⟨vb, 85, vl⟩ :: F))) := H
    refine ld_h H' 0 rfl e4' ?_
    rw [eav]
    try simp only [WKt, mem, drewV]
    unfold F33_j20
    by_cases ha0 : st.air.length = 0
    · simp only [decide_eq_true (show (st.air.length : Int) = 0 by omega), WKt, mem, drewV]
      have : st.air[k]? = none := List.getElem?_eq_none (by omega)
      rw [this] at hres
      exact seen hres H
    simp only [decide_eq_false (show ¬ (st.air.length : Int) = 0 by omega), WKt, mem, drewV]
    have hkl := hkl (by omega)
    obtain ⟨f, hf⟩ : ∃ f, st.air[k]? = some f := ⟨_, List.getElem?_eq_getElem hkl⟩
    have hfo := hok f (List.mem_of_getElem? hf)
    rw [hf] at hres
    simp only at hres
    have arr : q = 4 ∨ q = 6 → F33_j23 (fun e w' => e = .returned (.bool true) ∧ ∃ L', TkM w0 tb (n + 1) (stepS st kd wh t xs) L' ∧ Hp w0 w' (L' ++ F)) (ptr tb 0) (I (q : Int)) (I (k : Int)) w := by
      intro h
      rw [if_pos h] at hres
      refine tk_arr hT3 hn hf hfo (hgl _ hfo.to).1 (by show st.air.length < _; omega) H fun w' L' hT' H' => fin (L' := L') hres ?_ H'
      rw [setF_same st.sent] at hT'
      exact hT'
    unfold F33_j21
    by_cases q44 : q = 4
    · simp only [decide_eq_true (show (q : Int) = 4 by omega), WKt, mem, drewV]
      unfold F33_j22
      try simp only [WKt, mem, drewV]
      exact arr (.inl q44)
    simp only [decide_eq_false (show ¬ (q : Int) = 4 by omega), WKt, mem, drewV]
    by_cases q6 : q = 6
    · simp only [decide_eq_true (show (q : Int) = 6 by omega), WKt, mem, drewV]
      unfold F33_j22
      try simp only [WKt, mem, drewV]
      exact arr (.inr q6)
    simp only [decide_eq_false (show ¬ (q : Int) = 6 by omega), WKt, mem, drewV]
    rw [if_neg (by omega)] at hres
    unfold F33_j22
    try simp only [WKt, mem, drewV]
    unfold F33_j26
    try simp only [WKt, mem, drewV]
    unfold F33_j27
    by_cases q5 : q = 5
    · simp only [decide_eq_true (show (q : Int) = 5 by omega), WKt, mem, drewV]
      rw [if_pos q5] at hres
      exact tk_drop hT3 hn hkl (by show st.air.length < _; omega) H fun w' L' hT' H' => fin (L' := L') hres hT' H'
    rw [if_neg q5] at hres
    simp only [decide_eq_false (show ¬ (q : Int) = 5 by omega), WKt, mem, drewV]
    have q7 : q = 7 := by omega
    unfold F33_j29
    simp only [decide_eq_true (show (q : Int) = 7 by omega), WKt, mem, drewV]
    obtain ⟨b, r, La, Lb, av2, ca, Da, sva, ss, gs, cs, Ds, cg, Dg, svs, svg, X, hB, hA, hS, hG, HX, _⟩ := tk_open hT3 H (i := 0) (by decide)
    obtain ⟨s1, hs1⟩ : ∃ s, sva[k]? = some s := ⟨_, List.getElem?_eq_getElem (by rw [hA.svl]; exact hkl)⟩
    refine ld_h HX 0 rfl (o := 4) rfl ?_
    obtain ⟨ba, cap, rest2, rfl, rfl, g1, g2, g3⟩ := hA.sl.chunk (by show 0 < st.air.length; omega)
    rw [ixS_mk hkl]
    try simp only [WKt, mem, drewV]
    have hc3 : ((fls st.air sva).flatten ++ rest2)[k * 4 + 3]? = some (.bool f.ch) := by
      have hfl : (fls st.air sva).flatten.length = st.air.length * 4 := by rw [flat_length (sz := 4) (fls_len _ _), fls_length hA.svl]
      rw [List.getElem?_append_left (by omega), flat_getQ (fls_len _ _) (fls_get hf hs1) (by decide)]; rfl
    have HX' : Hp w0 w (⟨ba, 132, (fls st.air sva).flatten ++ rest2⟩ :: (⟨tb, 39, tkL b r (.slice (some ⟨ba, 0, none⟩) st.air.length cap) now ss gs⟩ :: (Da ++ (La ++ (Lb ++ (cs ++ (Ds ++ (cg ++ (Dg ++ (X ++ (⟨vb, 85, vl⟩ :: F))))))))))) := HX.to (by intro f; simp only [I, U8, U64, ptr, List.set_cons_zero, List.set_cons_succ, List.eraseIdx_cons_zero, List.eraseIdx_cons_succ, List.map_append, List.map_cons, List.map_nil, List.sum_append, List.sum_cons, List.sum_nil]; omega)
    refine ld_h HX' 0 rfl (o := k * 4 + 3) hc3 ?_
    unfold F33_j30
    cases hch : f.ch with
    | true =>
      rw [if_neg (by rw [hch]; simp)] at hres
      try simp only [WKt, mem, drewV]
      exact seen hres H
    | false =>
      rw [if_pos ⟨q7, hch⟩] at hres
      try simp only [WKt, mem, drewV]
      rw [← hvl] at H
      refine tk_chg (s0 := s) (kd := kd) (wh := wh) hT3 hn hf hfo (by show st.air.length < _; omega) ht H fun w' L' hT' H' => ⟨rfl, L', by rw [hres]; exact hT', H'⟩
  unfold F33_j32
  have H4 : Hp w0 w3 (⟨tb, 39, l.set 5 (I now)⟩ :: (rest ++ (⟨vb, 85, vl⟩ :: F))) := H3'
  have e4' : (l.set 5 (I now))[4]? = some av := by rw [List.getElem?_set_ne (by decide)]; exact e4
  try simp only [WKt, mem, drewV]
  refine ld_h H4 0 rfl e4' ?_
  rw [eav]
  try simp only [WKt, mem, drewV]
  by_cases ha0 : st.air.length = 0
  · simp only [decide_eq_false (show ¬ (0 : Int) < (st.air.length : Int) by omega), WKt, mem, drewV]
    rw [if_pos ha0] at hk
    subst hk
    exact main H3'
  · simp only [decide_eq_true (show (0 : Int) < (st.air.length : Int) by omega), WKt, mem, drewV]
    have H5 : Hp w0 w3.drew (⟨vb, 85, vl⟩ :: ⟨tb, 39, l.set 5 (I now)⟩ :: (rest ++ F)) := H3.drew.to (by intro f; simp only [I, U8, U64, ptr, List.set_cons_zero, List.set_cons_succ, List.eraseIdx_cons_zero, List.eraseIdx_cons_succ, List.map_append, List.map_cons, List.map_nil, List.sum_append, List.sum_cons, List.sum_nil]; omega)
    refine ld_h H5 0 rfl l1 ?_
    rw [cvU64]
    try simp only [WKt, mem, drewV]
    refine ld_h H5 1 rfl e4' ?_
    rw [eav]
    try simp only [WKt, mem, drewV]
    rw [cvU64, u64_id (by omega) (by omega)]
    try simp only [WKt, mem, drewV]
    have ek : (u64 wh).tmod (st.air.length : Int) = (k : Int) := by
      rw [Int.tmod_eq_emod_of_nonneg hu2, ← hk, if_neg ha0]
      have := Int.emod_nonneg (u64 wh) (show (st.air.length : Int) ≠ 0 by omega)
      omega
    rw [bin_rem (by omega), ek]
    try simp only [WKt, mem, drewV]
    have := hkl (by omega)
    rw [cvI64, i64, wrap64_id (by omega) (by omega)]
    try simp only [WKt, mem, drewV]
    exact main H3'.drew
end
end Go.Proofs.Ytmnpndgmfmjfhaa.Den
end

section
set_option linter.unusedVariables false
set_option linter.unusedSimpArgs false
set_option maxRecDepth 8000
namespace Go.Proofs.Ytmnpndgmfmjfhaa.Den
open Go Go.RowKit
/-! ### bytes -/
theorem xor_toNat_inj {a b a' b' : BitVec 64} (h : (a ^^^ b).toNat = (a' ^^^ b').toNat) : a ^^^ b = a' ^^^ b' := BitVec.eq_of_toNat_eq h
theorem ofInt_inj {a b : Int} (ha : 0 ≤ a ∧ a < 18446744073709551616) (hb : 0 ≤ b ∧ b < 18446744073709551616) (h : BitVec.ofInt 64 a = BitVec.ofInt 64 b) : a = b := by
  have := congrArg BitVec.toNat h
  rw [BitVec.toNat_ofInt, BitVec.toNat_ofInt] at this
  have e : ((2 ^ 64 : Nat) : Int) = 18446744073709551616 := by decide
  rw [e, Int.emod_eq_of_lt ha.1 ha.2, Int.emod_eq_of_lt hb.1 hb.2] at this
  omega
theorem mulP_inj {x y : Int} (hx : 0 ≤ x ∧ x < 18446744073709551616) (hy : 0 ≤ y ∧ y < 18446744073709551616) (h : (x * 1099511628211) % 18446744073709551616 = (y * 1099511628211) % 18446744073709551616) : x = y := by
  have key : ∀ z : Int, 0 ≤ z ∧ z < 18446744073709551616 → ((z * 1099511628211) % 18446744073709551616 * 14886173955864302971) % 18446744073709551616 = z := by
    intro z hz
    rw [Int.mul_emod, Int.emod_emod, ← Int.mul_emod, Int.mul_assoc, show (1099511628211 * 14886173955864302971 : Int) = 1 + 18446744073709551616 * 887285111055 from by decide, Int.mul_add, Int.mul_one, ← Int.mul_assoc, Int.mul_comm z 18446744073709551616, Int.mul_assoc, Int.add_mul_emod_self_left, Int.emod_eq_of_lt hz.1 hz.2]
  rw [← key x hx, ← key y hy, h]
theorem toNat_mod (x : BitVec 64) : (x.toNat : Int) % 18446744073709551616 = x.toNat := by
  have hx : x.toNat < 18446744073709551616 := x.isLt
  exact Int.emod_eq_of_lt (by omega) (by omega)
theorem dst_val (h c : Int) : dst h c = ((BitVec.ofInt 64 h ^^^ BitVec.ofInt 64 (IntKind.u64.wrap c)).toNat : Int) * 1099511628211 % 18446744073709551616 := by
  unfold dst
  rw [wrapU64 (((BitVec.ofInt 64 h ^^^ BitVec.ofInt 64 (IntKind.u64.wrap c)).toNat : Nat) : Int), toNat_mod, wrapU64]
theorem toNat_rg (x : BitVec 64) : 0 ≤ (x.toNat : Int) ∧ (x.toNat : Int) < 18446744073709551616 := by
  have hx : x.toNat < 18446744073709551616 := x.isLt
  omega
theorem mulB_inj {x y : BitVec 64} (h : (x.toNat : Int) * 1099511628211 % 18446744073709551616 = (y.toNat : Int) * 1099511628211 % 18446744073709551616) : x = y :=
  BitVec.eq_of_toNat_eq (Int.ofNat.inj (mulP_inj (toNat_rg x) (toNat_rg y) h))
theorem dst_core {h c h' c' : Int} (e : dst h c = dst h' c') : BitVec.ofInt 64 h ^^^ BitVec.ofInt 64 (IntKind.u64.wrap c) = BitVec.ofInt 64 h' ^^^ BitVec.ofInt 64 (IntKind.u64.wrap c') := by
  rw [dst_val, dst_val] at e
  exact mulB_inj e
theorem dst_injL {h h' c : Int} (hh : 0 ≤ h ∧ h < 18446744073709551616) (hh' : 0 ≤ h' ∧ h' < 18446744073709551616) (e : dst h c = dst h' c) : h = h' := by
  have := dst_core e
  exact ofInt_inj hh hh' (BitVec.xor_left_inj _ |>.1 this)
theorem dst_injR {h c c' : Int} (hh : 0 ≤ h ∧ h < 18446744073709551616) (hc : 0 ≤ c ∧ c < 256) (hc' : 0 ≤ c' ∧ c' < 256) (e : dst h c = dst h c') : c = c' := by
  have := BitVec.xor_right_inj _ |>.1 (dst_core e)
  rw [wrapU64, wrapU64, Int.emod_eq_of_lt (by omega) (by omega), Int.emod_eq_of_lt (by omega) (by omega)] at this
  exact ofInt_inj (by omega) (by omega) this
theorem fold_inj : ∀ (xs : List Int) {a b : Int}, 0 ≤ a ∧ a < 18446744073709551616 → 0 ≤ b ∧ b < 18446744073709551616 → xs.foldl dst a = xs.foldl dst b → a = b
  | [], a, b, _, _, h => h
  | c :: xs, a, b, ha, hb, h => dst_injL ha hb (fold_inj xs (dst_range a c) (dst_range b c) h)
theorem fold_set : ∀ (xs : List Int) {a : Int} {p : Nat} {c x : Int}, 0 ≤ a ∧ a < 18446744073709551616 → xs[p]? = some x → 0 ≤ x ∧ x < 256 → 0 ≤ c ∧ c < 256 → (xs.set p c).foldl dst a = xs.foldl dst a → c = x
  | [], a, p, c, x, _, h, _, _, _ => by simp at h
  | y :: xs, a, 0, c, x, ha, h, hx, hc, e => by
    simp at h; subst h
    simp only [List.set_cons_zero, List.foldl_cons] at e
    exact dst_injR ha hc hx (fold_inj xs (dst_range a c) (dst_range a y) e)
  | y :: xs, a, p + 1, c, x, ha, h, hx, hc, e => by
    simp only [List.getElem?_cons_succ] at h
    simp only [List.set_cons_succ, List.foldl_cons] at e
    exact fold_set xs (dst_range a y) h hx hc e
theorem getI_range : ∀ (n : Nat) (l : List Int), l.length = n → n ≤ 8 → ByteL l → 0 ≤ getI l ∧ getI l < 256 ^ n
  | 0, l, hl, _, _ => by
    have : l = [] := List.length_eq_zero_iff.1 hl
    subst this; simp [getI]
  | n + 1, l, hl, hn, hb => by
    obtain ⟨init, last, rfl⟩ : ∃ init last, l = init ++ [last] := by
      rcases List.eq_nil_or_concat l with rfl | ⟨i, x, h⟩
      · simp at hl
      · exact ⟨i, x, by rw [h]; simp⟩
    simp at hl
    obtain ⟨h1, h2⟩ := getI_range n init hl (by omega) fun x hx => hb x (by simp [hx])
    have hlast := hb last (by simp)
    have h3 : (256 : Int) ^ n ≤ 256 ^ 7 := by
      have : n = 0 ∨ n = 1 ∨ n = 2 ∨ n = 3 ∨ n = 4 ∨ n = 5 ∨ n = 6 ∨ n = 7 := by omega
      rcases this with rfl | rfl | rfl | rfl | rfl | rfl | rfl | rfl <;> decide
    have h4 : (256 : Int) ^ 7 = 72057594037927936 := by decide
    have e : getI (init ++ [last]) = getI init * 256 + last := by
      unfold getI
      rw [List.foldl_append]
      exact gst_small h1 (by have := h2; unfold getI at this; omega) hlast.1 hlast.2
    rw [e, Int.pow_succ]
    omega
theorem getI_inj : ∀ (n : Nat) (l l' : List Int), l.length = n → l'.length = n → n ≤ 8 → ByteL l → ByteL l' → getI l = getI l' → l = l'
  | 0, l, l', hl, hl', _, _, _, _ => by rw [List.length_eq_zero_iff.1 hl, List.length_eq_zero_iff.1 hl']
  | n + 1, l, l', hl, hl', hn, hb, hb', e => by
    obtain ⟨init, last, rfl⟩ : ∃ init last, l = init ++ [last] := by
      rcases List.eq_nil_or_concat l with rfl | ⟨i, x, h⟩
      · simp at hl
      · exact ⟨i, x, by rw [h]; simp⟩
    obtain ⟨init', last', rfl⟩ : ∃ init last, l' = init ++ [last] := by
      rcases List.eq_nil_or_concat l' with rfl | ⟨i, x, h⟩
      · simp at hl'
      · exact ⟨i, x, by rw [h]; simp⟩
    simp at hl hl'
    have b1 : ByteL init := fun x hx => hb x (by simp [hx])
    have b2 : ByteL init' := fun x hx => hb' x (by simp [hx])
    obtain ⟨h1, h2⟩ := getI_range n init hl (by omega) b1
    obtain ⟨h1', h2'⟩ := getI_range n init' hl' (by omega) b2
    have hlast := hb last (by simp)
    have hlast' := hb' last' (by simp)
    have h3 : (256 : Int) ^ n ≤ 256 ^ 7 := by
      have : n = 0 ∨ n = 1 ∨ n = 2 ∨ n = 3 ∨ n = 4 ∨ n = 5 ∨ n = 6 ∨ n = 7 := by omega
      rcases this with rfl | rfl | rfl | rfl | rfl | rfl | rfl | rfl <;> decide
    have h4 : (256 : Int) ^ 7 = 72057594037927936 := by decide
    have g : ∀ {i : List Int} {x : Int}, 0 ≤ getI i → getI i < 256 ^ n → 0 ≤ x ∧ x < 256 → getI (i ++ [x]) = getI i * 256 + x := by
      intro i x g1 g2 g3
      show (i ++ [x]).foldl gst 0 = _
      rw [List.foldl_append]
      exact gst_small g1 (show getI i < _ by omega) g3.1 g3.2
    rw [g h1 h2 hlast, g h1' h2' hlast'] at e
    have := getI_inj n init init' hl hl' (by omega) b1 b2 (by omega)
    rw [this, show last = last' from by omega]
theorem encB_bytes {k m f : Int} {last : Bool} {xs : List Int} (hb : ByteL xs) : ByteL (encB k last m f xs) := by
  intro x hx
  unfold encB encH at hx
  simp only [List.mem_append, List.mem_cons, List.not_mem_nil, or_false] at hx
  rcases hx with ((((h | h) | h) | h) | h) | h
  · rcases h with h | h
    · subst h; omega
    · subst h; unfold lbit; split <;> decide
  · exact be_byte _ _ x h
  · exact be_byte _ _ x h
  · exact be_byte _ _ x h
  · exact be_byte _ _ x h
  · exact hb x h
/-- A frame with one byte changed is refused. -/
theorem chg_dec {k m f : Int} {last : Bool} {xs : List Int} (he : encE k last m f xs.length = 0) (hm : m ≤ 9223372036854775807) (hb : ByteL xs) {p : Nat} {c x : Int} (hx : (encB k last m f xs)[p]? = some x) (hc : 0 ≤ c ∧ c < 256) (hne : c ≠ x) :
    decE ((encB k last m f xs).set p c) ≠ 0 := by
  obtain ⟨d0, _, _, _, _, _, dl⟩ := dec_enc he hm
  have hby := encB_bytes (k := k) (last := last) (m := m) (f := f) hb
  generalize encB k last m f xs = e at *
  have hxb := hby x (List.mem_of_getElem? hx)
  have key : ∀ ys : List Int, decE ys = 0 → dS ys = digI (ys.take 16 ++ ys.drop 24) := by
    intro ys h
    unfold decE at h
    split at h
    · cases h
    · split at h
      · cases h
      · rename_i h2
        exact Decidable.not_not.1 h2
  intro h
  have k1 := key _ d0
  have k2 := key _ h
  have hp : p < e.length := (List.getElem?_eq_some_iff.1 hx).1
  by_cases h1 : p < 16
  · have s1 : dS (e.set p c) = dS e := by unfold dS; rw [List.drop_set_of_lt h1]
    have s2 : (e.set p c).take 16 ++ (e.set p c).drop 24 = (e.take 16 ++ e.drop 24).set p c := by
      rw [List.drop_set_of_lt (by omega), List.set_append_left _ _ (by rw [List.length_take]; omega), List.take_set]
    rw [s1, s2, k1] at k2
    refine hne (fold_set _ (a := 14695981039346656037) (by decide) ?_ hxb hc k2.symm)
    rw [List.getElem?_append_left (by rw [List.length_take]; omega), List.getElem?_take_of_lt h1, hx]
  · by_cases h2 : p < 24
    · have s2 : (e.set p c).take 16 ++ (e.set p c).drop 24 = e.take 16 ++ e.drop 24 := by
        rw [List.drop_set_of_lt (by omega), List.take_set_of_le (by omega)]
      rw [s2, ← k1] at k2
      have s1 : (e.set p c).drop 16 = (e.drop 16).set (p - 16) c := by rw [List.drop_set, if_neg (by omega)]
      have s3 : ((e.drop 16).set (p - 16) c).take 8 = ((e.drop 16).take 8).set (p - 16) c := by rw [List.take_set]
      unfold dS at k2
      rw [s1, s3] at k2
      have hl8 : ((e.drop 16).take 8).length = 8 := by simp; omega
      have hb8 : ByteL ((e.drop 16).take 8) := fun y hy => hby y (List.mem_of_mem_drop (List.mem_of_mem_take hy))
      have := getI_inj 8 _ _ (by rw [List.length_set]; exact hl8) hl8 (by omega) (fun y hy => by rcases List.mem_or_eq_of_mem_set hy with h | rfl; exact hb8 y h; exact hc) hb8 k2
      have h3 := congrArg (fun l => l[p - 16]?) this
      rw [List.getElem?_set_self (by omega), List.getElem?_take_of_lt (by omega), List.getElem?_drop, show 16 + (p - 16) = p from by omega, hx] at h3
      injection h3 with h3
      exact hne h3
    · have s1 : dS (e.set p c) = dS e := by
        unfold dS
        rw [List.drop_set, if_neg (by omega), List.take_set_of_le (by omega)]
      have s2 : (e.set p c).take 16 ++ (e.set p c).drop 24 = (e.take 16 ++ e.drop 24).set (p - 8) c := by
        have hl : (e.take 16).length = 16 := by rw [List.length_take]; omega
        rw [List.take_set_of_le (by omega), List.set_append_right _ _ (by omega), hl, List.drop_set, if_neg (by omega)]
        congr 2
      rw [s1, s2, k1] at k2
      refine hne (fold_set _ (a := 14695981039346656037) (by decide) ?_ hxb hc k2.symm)
      rw [List.getElem?_append_right (by rw [List.length_take]; omega), List.length_take, List.getElem?_drop, show 24 + (p - 8 - min 16 e.length) = p from by omega, hx]
theorem xorB_ne {a b : Int} (ha : 0 ≤ a ∧ a < 256) (hb : 1 ≤ b ∧ b < 256) : (0 ≤ xorB a b ∧ xorB a b < 256) ∧ xorB a b ≠ a := by
  unfold xorB
  rw [wrapU8]
  refine ⟨by omega, fun h => ?_⟩
  have e8 : IntKind.u8.bits = 8 := rfl
  have hlt : (BitVec.ofInt IntKind.u8.bits a ^^^ BitVec.ofInt IntKind.u8.bits b).toNat < 256 := (BitVec.ofInt IntKind.u8.bits a ^^^ BitVec.ofInt IntKind.u8.bits b).isLt
  rw [Int.emod_eq_of_lt (by omega) (by omega)] at h
  have ea : (BitVec.ofInt IntKind.u8.bits a).toNat = a.toNat := by
    rw [BitVec.toNat_ofInt, show ((2 ^ IntKind.u8.bits : Nat) : Int) = 256 from rfl, Int.emod_eq_of_lt ha.1 ha.2]
  have eb : (BitVec.ofInt IntKind.u8.bits b).toNat = b.toNat := by
    rw [BitVec.toNat_ofInt, show ((2 ^ IntKind.u8.bits : Nat) : Int) = 256 from rfl, Int.emod_eq_of_lt (by omega) hb.2]
  have h1 : BitVec.ofInt IntKind.u8.bits a ^^^ BitVec.ofInt IntKind.u8.bits b = BitVec.ofInt IntKind.u8.bits a ^^^ 0 := by
    have e0 : BitVec.ofInt IntKind.u8.bits a ^^^ 0 = BitVec.ofInt IntKind.u8.bits a := by simp
    rw [e0]
    exact BitVec.eq_of_toNat_eq (by omega)
  have h2 := BitVec.xor_right_inj _ |>.1 h1
  have h3 := congrArg BitVec.toNat h2
  rw [eb] at h3
  simp at h3
  omega
theorem chgB_dec {k m f : Int} {last : Bool} {xs : List Int} {t : Nat} (he : encE k last m f xs.length = 0) (hm : m ≤ 9223372036854775807) (hb : ByteL xs) :
    decE (chgB (encB k last m f xs) t) ≠ 0 ∧ ByteL (chgB (encB k last m f xs) t) ∧ (chgB (encB k last m f xs) t).length = 24 + xs.length := by
  have hl := encB_length k last m f xs
  have hby := encB_bytes (k := k) (last := last) (m := m) (f := f) hb
  have hp : t % (encB k last m f xs).length < (encB k last m f xs).length := Nat.mod_lt _ (by omega)
  have hx : (encB k last m f xs)[t % (encB k last m f xs).length]? = some ((encB k last m f xs).getD (t % (encB k last m f xs).length) 0) := by simp [List.getD, hp]
  have h7 : t % 7 < 7 := Nat.mod_lt _ (by decide)
  obtain ⟨h1, h2⟩ := xorB_ne (b := 1 + ((t % 7 : Nat) : Int)) (hby _ (List.mem_of_getElem? hx)) (by omega)
  refine ⟨chg_dec he hm hb hx h1 h2, ?_, by unfold chgB; rw [List.length_set, hl]⟩
  intro y hy
  unfold chgB at hy
  rcases List.mem_or_eq_of_mem_set hy with h | rfl
  · exact hby y h
  · exact h1
/-! ### units -/
theorem pcs_neP (n sz : Nat) (d : List Int) : pcs (n + 1) sz d ≠ [] := by unfold pcs; split <;> simp
theorem pcs_flatP : ∀ (n sz : Nat) (d : List Int), 1 ≤ sz → d.length ≤ n → (pcs (n + 1) sz d).flatten = d
  | n, sz, d, h1, h2 => by
    unfold pcs
    split
    · simp
    · rename_i h
      cases n with
      | zero => omega
      | succ n =>
        rw [List.flatten_cons, pcs_flatP n sz (d.drop sz) h1 (by rw [List.length_drop]; omega), List.take_append_drop]
theorem pcs_countP : ∀ (n : Nat) (sz : Nat) (d : List Int), 8 ≤ sz → 8 * (pcs n sz d).length ≤ d.length + 8
  | 0, sz, d, _ => by simp [pcs]
  | n + 1, sz, d, h => by
    unfold pcs
    split
    · simp
    · rename_i h1
      have := pcs_countP n sz (d.drop sz) h
      rw [List.length_drop] at this
      simp only [List.length_cons]; omega
theorem pcs_memP : ∀ (n sz : Nat) (d : List Int), ∀ p ∈ pcs n sz d, p.length ≤ d.length ∧ ∀ x ∈ p, x ∈ d
  | 0, sz, d, p, h => by simp [pcs] at h
  | n + 1, sz, d, p, h => by
    unfold pcs at h
    split at h
    · simp at h; subst h; exact ⟨Nat.le_refl _, fun x hx => hx⟩
    · rcases List.mem_cons.1 h with rfl | h
      · exact ⟨by rw [List.length_take]; omega, fun x hx => List.mem_of_mem_take hx⟩
      · obtain ⟨h1, h2⟩ := pcs_memP n sz (d.drop sz) p h
        rw [List.length_drop] at h1
        exact ⟨by omega, fun x hx => List.mem_of_mem_drop (h2 x hx)⟩
/-- The pieces of a message. -/
def pc (sz : Nat) (d : List Int) : List (List Int) := pcs (d.length + 1) sz d
/-- All units of messages from number m on. -/
def unitsOf (sz : Nat) : Int → List (List Int) → List UM
  | _, [] => []
  | m, d :: ds => addL m 0 (pc sz d) ++ unitsOf sz (m + 1) ds
theorem unitsOf_app (sz : Nat) (d : List Int) : ∀ (m : Int) (ds : List (List Int)), unitsOf sz m (ds ++ [d]) = unitsOf sz m ds ++ addL (m + ds.length) 0 (pc sz d)
  | m, [] => by simp [unitsOf]
  | m, e :: ds => by
    rw [List.cons_append, unitsOf, unitsOf, unitsOf_app sz d (m + 1) ds, List.append_assoc]
    congr 3; simp only [List.length_cons]; omega
theorem addL_at (m : Int) : ∀ (k : Nat) (ps : List (List Int)) (u : UM), u ∈ addL m k ps → ∃ j p, ps[j]? = some p ∧ u.m = m ∧ u.f = ((k + j : Nat) : Int) ∧ u.d = p ∧ (u.last = true ↔ j + 1 = ps.length) ∧ u.at_ = -1
  | _, [], u, h => by simp [addL] at h
  | k, p :: ps, u, h => by
    rcases List.mem_cons.1 h with rfl | h
    · refine ⟨0, p, rfl, rfl, by simp, rfl, ?_, rfl⟩
      cases ps <;> simp
    · obtain ⟨j, q, h1, h2, h3, h4, h5, h6⟩ := addL_at m (k + 1) ps u h
      refine ⟨j + 1, q, by simpa using h1, h2, by rw [h3]; congr 1; omega, h4, by rw [h5, List.length_cons]; omega, h6⟩
theorem unitsOf_at (sz : Nat) : ∀ (m : Int) (D : List (List Int)) (u : UM), u ∈ unitsOf sz m D → ∃ (i : Nat) (d : List Int) (j : Nat) (p : List Int), D[i]? = some d ∧ u.m = m + i ∧ (pc sz d)[j]? = some p ∧ u.f = (j : Int) ∧ u.d = p ∧ (u.last = true ↔ j + 1 = (pc sz d).length) ∧ u.at_ = -1
  | m, [], u, h => by simp [unitsOf] at h
  | m, d :: ds, u, h => by
    rcases List.mem_append.1 h with h | h
    · obtain ⟨j, p, h1, h2, h3, h4⟩ := addL_at m 0 _ u h
      exact ⟨0, d, j, p, rfl, by simpa using h2, h1, by simpa using h3, h4⟩
    · obtain ⟨i, e, j, p, h1, h2, h3⟩ := unitsOf_at sz (m + 1) ds u h
      exact ⟨i + 1, e, j, p, by simpa using h1, by rw [h2]; omega, h3⟩
end Go.Proofs.Ytmnpndgmfmjfhaa.Den
end

section
set_option linter.unusedVariables false
set_option linter.unusedSimpArgs false
set_option maxRecDepth 8000
namespace Go.Proofs.Ytmnpndgmfmjfhaa.Den
open Go Go.RowKit
/-- Numbers that an acknowledgment of a receiver may bear. -/
def AckOk (R : LM) (m f : Int) : Prop := 1 ≤ m ∧ m < 1000000 ∧ 0 ≤ f ∧ f < 1000000 ∧ (m < R.msg ∨ m = R.msg ∧ f ≤ R.frag)
/-- A sender and the receiver on the other side. -/
structure Side (sz : Nat) (D : List (List Int)) (S R : LM) (G : List (List Int)) : Prop where
  size : S.size = (sz : Int) + 24
  dl : ∀ d ∈ D, d.length ≤ 200 ∧ ByteL d
  dn : D.length < 1000
  snt : S.sent = D.length
  us : ∃ k, k ≤ (unitsOf sz 1 D).length ∧ S.us.map key = ((unitsOf sz 1 D).drop k).map key
  msg : R.msg = (G.length : Int) + 1
  got : G = D.take G.length
  gl : G.length ≤ D.length
  fr : ∃ k : Nat, R.frag = k ∧ k < 1000 ∧ ((k = 0 ∧ R.part = []) ∨ ∃ d, D[G.length]? = some d ∧ k < (pc sz d).length ∧ R.part = ((pc sz d).take k).flatten)
  acks : ∀ a ∈ R.acks, AckOk R a.m a.f
  done : S.done ≤ G.length
/-- What a frame on its way to side t may be. -/
structure FrOk (sz : Nat) (M : Nat → LM) (D : Nat → List (List Int)) (f : Fl) : Prop where
  to : f.to < 2
  by_ : ByteL f.by_
  len : 24 ≤ f.by_.length ∧ f.by_.length ≤ 4120
  ok : (f.ch = true ∧ decE f.by_ ≠ 0) ∨ (f.ch = false ∧ ((∃ u ∈ unitsOf sz 1 (D (1 - f.to)), f.by_ = encB 1 u.last u.m u.f u.d) ∨ ∃ m g, AckOk (M (1 - f.to)) m g ∧ f.by_ = encB 2 false m g []))
structure TInv (sz : Nat) (st : TS) : Prop where
  side : ∀ i, i < 2 → Side sz (st.sent i) (st.M i) (st.M (1 - i)) (st.got (1 - i))
  fr : ∀ f ∈ st.air, FrOk sz st.M st.sent f
section
variable {sz n : Nat} {D G : List (List Int)} {S S' R R' : LM} {M : Nat → LM}
theorem unit_ok (hsz : 8 ≤ sz) (hdl : ∀ d ∈ D, d.length ≤ 200 ∧ ByteL d) (hdn : D.length < 1000) {u : UM} (hu : u ∈ unitsOf sz 1 D) : 1 ≤ u.m ∧ u.m < 1000000 ∧ 0 ≤ u.f ∧ u.f < 1000000 ∧ u.d.length ≤ 200 ∧ ByteL u.d ∧ encE 1 u.last u.m u.f u.d.length = 0 := by
  obtain ⟨i, d, j, p, h1, h2, h3, h4, h5, h6, h7⟩ := unitsOf_at sz 1 D u hu
  have hi := (List.getElem?_eq_some_iff.1 h1).1
  have hj := (List.getElem?_eq_some_iff.1 h3).1
  obtain ⟨d1, d2⟩ := hdl d (List.mem_of_getElem? h1)
  have hc := pcs_countP (d.length + 1) sz d hsz
  obtain ⟨p1, p2⟩ := pcs_memP (d.length + 1) sz d p (List.mem_of_getElem? h3)
  unfold pc at hj
  refine ⟨by omega, by omega, by omega, by omega, by rw [h5]; omega, by rw [h5]; exact fun x hx => d2 x (p2 x hx), ?_⟩
  unfold encE
  rw [h5, if_neg (by omega), if_neg (by omega), if_neg (by omega), if_neg (by omega)]
theorem ack_enc {m g : Int} (h : AckOk R m g) : encE 2 false m g ([] : List Int).length = 0 := by
  obtain ⟨h1, h2, h3, h4, _⟩ := h
  unfold encE
  rw [if_neg (by omega), if_neg (by simp), if_neg (by omega), if_neg (by simp)]
theorem AckOk.mono {m g : Int} (h : AckOk R m g) (hr : R.msg < R'.msg ∨ R.msg = R'.msg ∧ R.frag ≤ R'.frag) : AckOk R' m g := by
  obtain ⟨h1, h2, h3, h4, h5⟩ := h
  exact ⟨h1, h2, h3, h4, by omega⟩
theorem FrOk.mono {M' : Nat → LM} {D D' : Nat → List (List Int)} {f : Fl} (h : FrOk sz M D f) (hM : ∀ i, i < 2 → (M i).msg < (M' i).msg ∨ (M i).msg = (M' i).msg ∧ (M i).frag ≤ (M' i).frag) (hD : ∀ i, i < 2 → ∀ u ∈ unitsOf sz 1 (D i), u ∈ unitsOf sz 1 (D' i)) : FrOk sz M' D' f := by
  have ht := h.to
  refine ⟨h.to, h.by_, h.len, ?_⟩
  rcases h.ok with h1 | ⟨h1, ⟨u, hu, e⟩ | ⟨m, g, ha, e⟩⟩
  · exact .inl h1
  · exact .inr ⟨h1, .inl ⟨u, hD _ (by omega) u hu, e⟩⟩
  · exact .inr ⟨h1, .inr ⟨m, g, ha.mono (hM _ (by omega)), e⟩⟩
/-- The receiver's side stays as it is. -/
theorem Side.keepR (h : Side sz D S R G) (h1 : R'.msg = R.msg) (h2 : R'.frag = R.frag) (h3 : R'.part = R.part) (h4 : ∀ a ∈ R'.acks, a ∈ R.acks) : Side sz D S R' G :=
  { h with msg := by rw [h1]; exact h.msg, fr := by rw [h2, h3]; exact h.fr, acks := fun a ha => (h.acks a (h4 a ha)).mono (by rw [h1, h2]; omega) }
theorem Side.keepS (h : Side sz D S R G) (h1 : S'.size = S.size) (h2 : S'.sent = S.sent) (h3 : S'.us.map key = S.us.map key) (h4 : S'.done = S.done) : Side sz D S' R G :=
  { h with size := by rw [h1]; exact h.size, snt := by rw [h2]; exact h.snt, us := by rw [h3]; exact h.us, done := by rw [h4]; exact h.done }
theorem outM_more {M : LM} {now : Int} : (outM M now).size = M.size ∧ (outM M now).done = M.done ∧ ∀ a ∈ (outM M now).acks, a ∈ M.acks := by
  unfold outM
  split
  · exact ⟨rfl, rfl, fun a h => h⟩
  · split
    · exact ⟨rfl, rfl, fun a h => h⟩
    · split
      · exact ⟨rfl, rfl, fun a h => by simp at h⟩
      · exact ⟨rfl, rfl, fun a h => by simp at h⟩
theorem outM_keys {M : LM} {now : Int} : (outM M now).us.map key = M.us.map key := by
  obtain ⟨_, _, _, _, h | ⟨_, a, q, ws, t, h⟩⟩ := outM_us (M := M) (now := now)
  · rw [h]
  · rw [h, outUs_key]
theorem setM_more {M : LM} {x : Int} {f : Bool} : (setM M x f).size = M.size ∧ (setM M x f).sent = M.sent ∧ (setM M x f).us = M.us ∧ (setM M x f).done = M.done ∧ (setM M x f).msg = M.msg ∧ (setM M x f).frag = M.frag ∧ (setM M x f).part = M.part ∧ (setM M x f).acks = M.acks := by
  unfold setM; split <;> exact ⟨rfl, rfl, rfl, rfl, rfl, rfl, rfl, rfl⟩
/-- A message is sent. -/
theorem side_send (hsz : 8 ≤ sz) (h : Side sz D S R G) (hn : D.length < 990) {d : List Int} {now : Int} (hd : d.length ≤ 200 ∧ ByteL d) (he : sendE S d now = 0) : Side sz (D ++ [d]) (sendM S d now) R G := by
  have hM : sendM S d now = { S with clock := now, sent := S.sent + 1, us := setLast (S.us ++ addU (S.sent + 1) 0 (pcs (d.length + 1) (S.size - 24).toNat d)) } := by unfold sendM; rw [if_pos he]
  have esz : (S.size - 24).toNat = sz := by have := h.size; omega
  rw [esz, setLast_app _ _ _ _ (pcs_neP _ _ _)] at hM
  have hgl := h.gl
  refine ⟨by rw [hM]; exact h.size, ?_, by simp; omega, by rw [hM]; show S.sent + 1 = _; rw [h.snt]; simp, ?_, h.msg, ?_, by rw [List.length_append]; omega, ?_, h.acks, by rw [hM]; exact h.done⟩
  · intro e he
    rcases List.mem_append.1 he with he | he
    · exact h.dl e he
    · simp at he; subst he; exact hd
  · obtain ⟨k, hk, e⟩ := h.us
    refine ⟨k, by rw [unitsOf_app, List.length_append]; omega, ?_⟩
    rw [hM]
    show (S.us ++ addL (S.sent + 1) 0 (pcs (d.length + 1) sz d)).map key = _
    rw [unitsOf_app, List.drop_append_of_le_length hk, List.map_append, List.map_append, e, h.snt, Int.add_comm (D.length : Int) 1]
    rfl
  · rw [List.take_append_of_le_length hgl]; exact h.got
  · obtain ⟨k, h1, h2, h3⟩ := h.fr
    refine ⟨k, h1, h2, ?_⟩
    rcases h3 with h3 | ⟨e, h4, h5⟩
    · exact .inl h3
    · exact .inr ⟨e, by rw [List.getElem?_append_left (List.getElem?_eq_some_iff.1 h4).1]; exact h4, h5⟩
theorem addL_sub {d : List Int} {u : UM} (h : u ∈ unitsOf sz 1 D) : u ∈ unitsOf sz 1 (D ++ [d]) := by
  rw [unitsOf_app]; exact List.mem_append_left _ h
/-- Data is taken. -/
theorem side_take (hsz : 8 ≤ sz) (h : Side sz D S R G) {u : UM} (hu : u ∈ unitsOf sz 1 D) {x now : Int} :
    Side sz D S (addA (takeM { R with clock := now } u.m u.f u.last u.d) x) (G ++ takeV R u.m u.f u.last u.d) ∧ (R.msg < (addA (takeM { R with clock := now } u.m u.f u.last u.d) x).msg ∨ R.msg = (addA (takeM { R with clock := now } u.m u.f u.last u.d) x).msg ∧ R.frag ≤ (addA (takeM { R with clock := now } u.m u.f u.last u.d) x).frag) := by
  obtain ⟨k, hk, hk2, hpart⟩ := h.fr
  have hgl := h.gl
  have hmsg := h.msg
  have hdn := h.dn
  have ackn : ∀ {R' : LM}, R'.acks = R.acks → (R.msg < R'.msg ∨ R.msg = R'.msg ∧ R.frag ≤ R'.frag) → 1 ≤ R'.msg → R'.msg < 1000000 → 0 ≤ R'.frag → R'.frag < 1000000 → ∀ a ∈ (addA R' x).acks, AckOk (addA R' x) a.m a.f := by
    intro R' e hr h1 h2 h3 h4 a ha
    rcases List.mem_append.1 ha with ha | ha
    · rw [e] at ha
      exact (h.acks a ha).mono hr
    · simp at ha; subst ha
      exact ⟨h1, h2, h3, h4, .inr ⟨rfl, Int.le_refl _⟩⟩
  by_cases hf : fitB R u.m u.f u.d
  rotate_left
  · have e1 : takeM { R with clock := now } u.m u.f u.last u.d = { R with clock := now } := by unfold takeM; rw [if_neg (show ¬ fitB { R with clock := now } u.m u.f u.d from hf)]
    have e2 : takeV R u.m u.f u.last u.d = [] := by unfold takeV; rw [if_neg (fun h => hf h.1)]
    rw [e1, e2, List.append_nil]
    have hr : R.msg < (addA { R with clock := now } x).msg ∨ R.msg = (addA { R with clock := now } x).msg ∧ R.frag ≤ (addA { R with clock := now } x).frag := .inr ⟨rfl, Int.le_refl _⟩
    exact ⟨{ h with msg := h.msg, fr := h.fr, acks := ackn (R' := { R with clock := now }) rfl hr (by show 1 ≤ R.msg; omega) (by show R.msg < _; omega) (by show 0 ≤ R.frag; omega) (by show R.frag < _; omega) }, hr⟩
  · obtain ⟨f1, f2, f3⟩ := hf
    obtain ⟨i, d, j, p, h1, h2, h3, h4, h5, h6, h7⟩ := unitsOf_at sz 1 D u hu
    have hi : i = G.length := by omega
    have hj : j = k := by omega
    subst hi; subst hj
    have hjl := (List.getElem?_eq_some_iff.1 h3).1
    have hil := (List.getElem?_eq_some_iff.1 h1).1
    have hp' : R.part = ((pc sz d).take j).flatten := by
      rcases hpart with ⟨e0, e1⟩ | ⟨d', e1, e2, e3⟩
      · rw [e1, e0]; rfl
      · rw [h1] at e1; injection e1 with e1; subst e1; exact e3
    have hnext : R.part ++ u.d = ((pc sz d).take (j + 1)).flatten := by
      rw [hp', h5, List.take_add_one, h3]; simp
    have hc := pcs_countP (d.length + 1) sz d hsz
    have hd2 := (h.dl d (List.mem_of_getElem? h1)).1
    unfold pc at hjl
    cases hl : u.last with
    | false =>
      have hnl : j + 1 ≠ (pc sz d).length := fun e => by have := h6.2 e; rw [hl] at this; cases this
      have e1 : takeM { R with clock := now } u.m u.f false u.d = { R with clock := now, part := R.part ++ u.d, frag := R.frag + 1 } := by unfold takeM; rw [if_pos (show fitB { R with clock := now } u.m u.f u.d from ⟨f1, f2, f3⟩)]; rfl
      have e2 : takeV R u.m u.f false u.d = [] := by unfold takeV; rw [if_neg (fun h => by cases h.2)]
      rw [e1, e2, List.append_nil]
      have hr : R.msg < (addA { R with clock := now, part := R.part ++ u.d, frag := R.frag + 1 } x).msg ∨ R.msg = (addA { R with clock := now, part := R.part ++ u.d, frag := R.frag + 1 } x).msg ∧ R.frag ≤ (addA { R with clock := now, part := R.part ++ u.d, frag := R.frag + 1 } x).frag := .inr ⟨rfl, by show R.frag ≤ R.frag + 1; omega⟩
      refine ⟨{ h with msg := h.msg, fr := ⟨j + 1, by show R.frag + 1 = _; rw [hk]; rfl, by omega, .inr ⟨d, h1, by unfold pc at hnl ⊢; omega, hnext⟩⟩, acks := ackn (R' := { R with clock := now, part := R.part ++ u.d, frag := R.frag + 1 }) rfl hr (by show 1 ≤ R.msg; omega) (by show R.msg < _; omega) (by show 0 ≤ R.frag + 1; omega) (by show R.frag + 1 < _; omega) }, hr⟩
    | true =>
      have hlast := h6.1 hl
      have e1 : takeM { R with clock := now } u.m u.f true u.d = { R with clock := now, msg := R.msg + 1, frag := 0, part := [] } := by unfold takeM; rw [if_pos (show fitB { R with clock := now } u.m u.f u.d from ⟨f1, f2, f3⟩)]; rfl
      have e2 : takeV R u.m u.f true u.d = [d] := by
        unfold takeV
        rw [if_pos ⟨⟨f1, f2, f3⟩, rfl⟩, hnext, hlast, List.take_length]
        unfold pc
        rw [pcs_flatP d.length sz d (by omega) (Nat.le_refl _)]
      rw [e1, e2]
      have hr : R.msg < (addA { R with clock := now, msg := R.msg + 1, frag := 0, part := [] } x).msg ∨ R.msg = (addA { R with clock := now, msg := R.msg + 1, frag := 0, part := [] } x).msg ∧ R.frag ≤ (addA { R with clock := now, msg := R.msg + 1, frag := 0, part := [] } x).frag := .inl (by show R.msg < R.msg + 1; omega)
      refine ⟨{ h with msg := ?_, got := ?_, gl := ?_, fr := ⟨0, rfl, by omega, .inl ⟨rfl, rfl⟩⟩, acks := ackn (R' := { R with clock := now, msg := R.msg + 1, frag := 0, part := [] }) rfl hr (by show 1 ≤ R.msg + 1; omega) (by show R.msg + 1 < _; omega) (by show (0 : Int) ≤ 0; omega) (by show (0 : Int) < _; omega), done := ?_ }, hr⟩
      · show R.msg + 1 = _; rw [h.msg]; simp
      · rw [List.length_append, List.length_singleton, List.take_add_one, h1, ← h.got]; rfl
      · simp; omega
      · have := h.done; simp; omega
theorem lastDone_le {x : Int} : ∀ (l : List UM) (d : Int), d ≤ x → (∀ u ∈ l, u.last = true → u.m ≤ x) → lastDone d l ≤ x
  | [], d, h, _ => h
  | u :: l, d, h, hl => by
    show lastDone (if u.last then u.m else d) l ≤ x
    refine lastDone_le l _ ?_ fun v hv => hl v (by simp [hv])
    split
    · rename_i h1; exact hl u (by simp) h1
    · exact h
theorem aO_some {p : Int × Int} : ∀ {us : List UM} {i : Nat}, aO p us = some i → ∃ u, us[i]? = some u ∧ p = nxt u
  | [], i, h => by simp [aO] at h
  | u :: r, i, h => by
    unfold aO at h
    split at h
    · rename_i hp
      split at h
      · cases h
      · injection h with h; subst h; exact ⟨u, rfl, hp⟩
    · cases ha : aO p r with
      | none => rw [ha] at h; cases h
      | some j =>
        rw [ha] at h
        injection h with h; subst h
        obtain ⟨v, h1, h2⟩ := aO_some ha
        exact ⟨v, by simpa using h1, h2⟩
theorem chn_lt : ∀ {us : List UM} {i j : Nat} {u v : UM}, Chn us → i < j → us[i]? = some u → us[j]? = some v → ltP (nxt u) (nxt v)
  | [], i, j, u, v, _, _, h, _ => by simp at h
  | a :: r, 0, j + 1, u, v, hc, _, h1, h2 => by
    simp at h1; subst h1
    exact chn_gt hc v (List.mem_of_getElem? (by simpa using h2))
  | a :: r, i + 1, j + 1, u, v, hc, hij, h1, h2 => chn_lt (us := r) (i := i) (j := j) hc.2 (by omega) (by simpa using h1) (by simpa using h2)
/-- An acknowledgment is taken by the sender. -/
theorem side_ack (h : Side sz D S R G) (hI : LInv n S) {m g : Int} (ha : AckOk R m g) : Side sz D (ackM S m g) R G ∧ (ackM S m g).msg = S.msg ∧ (ackM S m g).frag = S.frag ∧ (ackM S m g).part = S.part ∧ (ackM S m g).acks = S.acks := by
  rw [ackM_aO hI.rg]
  cases ho : aO (m, g) S.us with
  | none => exact ⟨h, rfl, rfl, rfl, rfl⟩
  | some i =>
    obtain ⟨v, hv, hp⟩ := aO_some ho
    refine ⟨?_, rfl, rfl, rfl, rfl⟩
    have hi := (List.getElem?_eq_some_iff.1 hv).1
    refine { h with size := h.size, snt := h.snt, us := ?_, done := ?_ }
    · obtain ⟨k, hk, e⟩ := h.us
      have hlen : S.us.length = (unitsOf sz 1 D).length - k := by have := congrArg List.length e; simpa using this
      refine ⟨k + (i + 1), by omega, ?_⟩
      show (S.us.drop (i + 1)).map key = _
      rw [List.map_drop, e, List.map_drop, List.drop_drop, List.map_drop]
    · refine lastDone_le _ _ h.done fun u hu hl => ?_
      obtain ⟨j, hj, e⟩ := List.getElem_of_mem hu
      rw [List.getElem_take] at e
      have hj' : j < i + 1 := by simp at hj; omega
      have hu' : S.us[j]? = some u := by rw [List.getElem?_eq_getElem (by omega), e]
      have hnu : nxt u = (u.m + 1, 0) := by unfold nxt; rw [if_pos hl]
      have hmsg := h.msg
      obtain ⟨a1, a2, a3, a4, a5⟩ := ha
      rcases Nat.lt_or_eq_of_le (Nat.le_of_lt_succ hj') with hlt | heq
      · have := chn_lt hI.ch hlt hu' hv
        rw [hnu, ← hp] at this
        unfold ltP at this
        simp only at this
        omega
      · subst heq
        rw [hv] at hu'; injection hu' with hu'; subst hu'
        rw [hnu] at hp
        injection hp with hp1 hp2
        omega
end
end Go.Proofs.Ytmnpndgmfmjfhaa.Den
end

section
set_option linter.unusedVariables false
set_option linter.unusedSimpArgs false
set_option maxRecDepth 8000
namespace Go.Proofs.Ytmnpndgmfmjfhaa.Den
open Go Go.RowKit
section
variable {sz n : Nat} {st : TS} {S R : LM}
theorem sides_set {i : Nat} {M : Nat → LM} {sent got : Nat → List (List Int)} {m' : LM} {s' g' : List (List Int)} (hi : i < 2) (A : Side sz s' m' (M (1 - i)) (got (1 - i))) (B : Side sz (sent (1 - i)) (M (1 - i)) m' g') :
    ∀ j, j < 2 → Side sz (setF sent i s' j) (setF M i m' j) (setF M i m' (1 - j)) (setF got i g' (1 - j)) := by
  intro j hj
  by_cases e : j = i
  · subst e
    rw [setF_self, setF_self, setF_ne _ _ (by omega), setF_ne _ _ (by omega)]; exact A
  · have e1 : j = 1 - i := by omega
    have e2 : 1 - j = i := by omega
    rw [setF_ne _ _ e, setF_ne _ _ e, e2, setF_self, setF_self, e1]; exact B
theorem setF_mono {i : Nat} {M : Nat → LM} {m' : LM} (h : (M i).msg < m'.msg ∨ (M i).msg = m'.msg ∧ (M i).frag ≤ m'.frag) : ∀ j, j < 2 → (M j).msg < (setF M i m' j).msg ∨ (M j).msg = (setF M i m' j).msg ∧ (M j).frag ≤ (setF M i m' j).frag := by
  intro j _
  by_cases e : j = i
  · subst e; rw [setF_self]; exact h
  · rw [setF_ne _ _ e]; exact .inr ⟨rfl, Int.le_refl _⟩
theorem outUs_memP {again : Bool} {now q : Int} {ws : List Int} : ∀ (n : Nat) (t : Int) (us : List UM), ∀ o ∈ (outUs again now q ws n t us).1, ∃ u ∈ us, o.2 = encR 1 u.last u.m u.f u.d
  | 0, t, us, o, h => by simp [outUs] at h
  | n + 1, t, [], o, h => by simp [outUs] at h
  | n + 1, t, v :: r, o, h => by
    unfold outUs at h
    split at h
    · obtain ⟨u, hu, e⟩ := outUs_memP n t r o h
      exact ⟨u, by simp [hu], e⟩
    · rcases List.mem_append.1 h with h | h
      · unfold outWs at h
        obtain ⟨x, _, rfl⟩ := List.mem_map.1 h
        exact ⟨v, by simp, rfl⟩
      · obtain ⟨u, hu, e⟩ := outUs_memP n _ r o h
        exact ⟨u, by simp [hu], e⟩
theorem outV_memP {M : LM} {now : Int} : ∀ o ∈ outV M now, (∃ a ∈ M.acks, o.2 = encR 2 false a.m a.f []) ∨ ∃ u ∈ M.us, o.2 = encR 1 u.last u.m u.f u.d := by
  intro o h
  unfold outV at h
  split at h
  · simp at h
  · split at h
    · simp at h
    · rcases List.mem_append.1 h with h | h
      · obtain ⟨a, ha, rfl⟩ := List.mem_map.1 h
        exact .inl ⟨a, ha, rfl⟩
      · exact .inr (outUs_memP _ _ _ o h)
theorem encR_eqP {k m f : Int} {last : Bool} {d : List Int} (h : encE k last m f d.length = 0) : encR k last m f d = encB k last m f d := by unfold encR; rw [if_pos h]
theorem in_zero {B : LM} {x now : Int} {xs : List Int} (h : inE B x xs now = 0) : decE xs = 0 := by
  unfold inE at h
  split at h
  · cases h
  · split at h
    · rename_i h2; exact absurd h h2
    · exact h
theorem in_no {B : LM} {x now : Int} {xs : List Int} (h : inE B x xs now ≠ 0) : inM B x xs now = B ∧ inV B x xs now = [] := by
  unfold inM inV; rw [if_pos h, if_pos h]; exact ⟨rfl, rfl⟩
theorem in_dat {B : LM} {x now m f : Int} {last : Bool} {d : List Int} (he : encE 1 last m f d.length = 0) (hm : m ≤ 9223372036854775807) (h : inE B x (encB 1 last m f d) now = 0) :
    inM B x (encB 1 last m f d) now = addA (takeM { B with clock := now } m f last d) x ∧ inV B x (encB 1 last m f d) now = takeV B m f last d := by
  obtain ⟨q1, q2, q3, q4, q5, q6, q7⟩ := dec_enc he hm
  have hb : decide (lbit last = 1) = last := by cases last <;> rfl
  refine ⟨?_, ?_⟩
  · unfold inM
    rw [if_neg (by rw [h]; decide), q2, if_neg (by decide), q3, q4, q5, q6, hb]
  · unfold inV
    rw [if_neg (by rw [h]; decide), q2, if_neg (by decide), q3, q4, q5, q6, hb]
theorem in_ack2 {B : LM} {x now m f : Int} (he : encE 2 false m f ([] : List Int).length = 0) (hm : m ≤ 9223372036854775807) (h : inE B x (encB 2 false m f []) now = 0) :
    inM B x (encB 2 false m f []) now = ackM { B with clock := now } m f ∧ inV B x (encB 2 false m f []) now = [] := by
  obtain ⟨q1, q2, q3, q4, q5, q6, q7⟩ := dec_enc he hm
  refine ⟨?_, ?_⟩
  · unfold inM
    rw [if_neg (by rw [h]; decide), q2, if_pos rfl, q4, q5]
  · unfold inV
    rw [if_neg (by rw [h]; decide), q2, if_pos rfl]
theorem takeM_more {M : LM} {m f : Int} {last : Bool} {d : List Int} : (takeM M m f last d).size = M.size ∧ (takeM M m f last d).sent = M.sent ∧ (takeM M m f last d).us = M.us ∧ (takeM M m f last d).done = M.done := by
  unfold takeM
  split
  · split <;> exact ⟨rfl, rfl, rfl, rfl⟩
  · exact ⟨rfl, rfl, rfl, rfl⟩
theorem nil_byte : ByteL [] := fun x hx => by simp at hx
theorem tinv_step (hsz : 8 ≤ sz) (h : TInv sz st) (hI : ∀ i, i < 2 → LInv n (st.M i)) (hl : ∀ i, i < 2 → (st.sent i).length < 990) {kd wh : Int} {t : Nat} {xs : List Int} (hx : ByteL xs) : TInv sz (stepS st kd wh t xs) := by
  unfold stepS
  simp only
  generalize st.now + ((t % 8 : Nat) : Int) = now
  generalize q10 kd = q
  generalize hk : (if st.air.length = 0 then 0 else (u64 wh % (st.air.length : Int)).toNat) = k
  clear hk
  have hi : q % 2 < 2 := Nat.mod_lt _ (by decide)
  generalize q % 2 = i at hi
  have hi' : 1 - i < 2 := by omega
  have e11 : 1 - (1 - i) = i := by omega
  have SA := h.side i hi
  have SB := h.side (1 - i) hi'
  rw [e11] at SB
  split
  · -- send
    have hd : (xs.take 200).length ≤ 200 ∧ ByteL (xs.take 200) := ⟨by rw [List.length_take]; omega, fun x h => hx x (List.mem_of_mem_take h)⟩
    generalize xs.take 200 = d at hd
    by_cases he : sendE (st.M i) d now = 0
    · rw [if_pos he]
      have m1 : (sendM (st.M i) d now).msg = (st.M i).msg ∧ (sendM (st.M i) d now).frag = (st.M i).frag ∧ (sendM (st.M i) d now).part = (st.M i).part ∧ (sendM (st.M i) d now).acks = (st.M i).acks := by unfold sendM; rw [if_pos he]; exact ⟨rfl, rfl, rfl, rfl⟩
      refine ⟨?_, fun f hf => (h.fr f hf).mono (setF_mono (.inr ⟨m1.1.symm, Int.le_of_eq m1.2.1.symm⟩)) ?_⟩
      · have := sides_set (i := i) (M := st.M) (sent := st.sent) (got := st.got) (m' := sendM (st.M i) d now) (g' := st.got i) hi (side_send hsz SA (hl i hi) hd he) (SB.keepR m1.1 m1.2.1 m1.2.2.1 (by rw [m1.2.2.2]; exact fun a h => h))
        rw [setF_same st.got] at this
        exact this
      · intro j hj u hu
        show u ∈ unitsOf sz 1 (setF st.sent i (st.sent i ++ [d]) j)
        by_cases e : j = i
        · subst e; rw [setF_self]; exact addL_sub hu
        · rw [setF_ne _ _ e]; exact hu
    · rw [if_neg he]
      have em : sendM (st.M i) d now = st.M i := by unfold sendM; rw [if_neg he]
      rw [em, setF_same, setF_same]
      exact ⟨h.side, h.fr⟩
  · split
    · -- output
      obtain ⟨o1, o2, o3, o4, _⟩ := outM_us (M := st.M i) (now := now)
      obtain ⟨o5, o6, o7⟩ := outM_more (M := st.M i) (now := now)
      have hmo := setF_mono (M := st.M) (i := i) (m' := outM (st.M i) now) (.inr ⟨o2.symm, Int.le_of_eq o3.symm⟩)
      refine ⟨?_, fun f hf => ?_⟩
      · have := sides_set (i := i) (M := st.M) (sent := st.sent) (got := st.got) (m' := outM (st.M i) now) (s' := st.sent i) (g' := st.got i) hi (SA.keepS o5 o1 outM_keys o6) (SB.keepR o2 o3 o4 o7)
        rw [setF_same st.got, setF_same st.sent] at this
        exact this
      rcases List.mem_append.1 hf with hf | hf
      · exact (h.fr f hf).mono hmo fun j _ u hu => hu
      · obtain ⟨o, ho, rfl⟩ := List.mem_map.1 hf
        rcases outV_memP o ho with ⟨a, ha, e⟩ | ⟨u, hu, e⟩
        · have hak := SB.acks a ha
          have hen := ack_enc hak
          rw [encR_eqP hen] at e
          have hlen := encB_length 2 false a.m a.f []
          refine ⟨by show 1 - i < 2; omega, by show ByteL o.2; rw [e]; exact encB_bytes nil_byte, by show 24 ≤ o.2.length ∧ o.2.length ≤ 4120; rw [e, hlen]; exact ⟨by omega, by simp⟩, .inr ⟨rfl, .inr ⟨a.m, a.f, ?_, e⟩⟩⟩
          show AckOk (setF st.M i (outM (st.M i) now) (1 - (1 - i))) a.m a.f
          rw [e11, setF_self]
          exact hak.mono (.inr ⟨o2.symm, Int.le_of_eq o3.symm⟩)
        · obtain ⟨k0, _, ek⟩ := SA.us
          have hku : key u ∈ (st.M i).us.map key := List.mem_map_of_mem hu
          rw [ek] at hku
          obtain ⟨u', hu', e'⟩ := List.mem_map.1 hku
          have hu' := List.mem_of_mem_drop hu'
          simp only [key, Prod.mk.injEq] at e'
          obtain ⟨e1, e2, e3, e4⟩ := e'
          obtain ⟨g1, g2, g3, g4, g5, g6, g7⟩ := unit_ok hsz SA.dl SA.dn hu'
          rw [← e1, ← e2, ← e3, ← e4, encR_eqP g7] at e
          have hlen := encB_length 1 u'.last u'.m u'.f u'.d
          refine ⟨by show 1 - i < 2; omega, by show ByteL o.2; rw [e]; exact encB_bytes g6, by show 24 ≤ o.2.length ∧ o.2.length ≤ 4120; rw [e, hlen]; omega, .inr ⟨rfl, .inl ⟨u', ?_, e⟩⟩⟩
          show u' ∈ unitsOf sz 1 (st.sent (1 - (1 - i)))
          rw [e11]; exact hu'
    · split
      · -- set
        obtain ⟨s1, s2, s3, s4, s5, s6, s7, s8⟩ := setM_more (M := st.M i) (x := u64 wh % 3) (f := decide (t % 2 = 0))
        refine ⟨?_, fun f hf => (h.fr f hf).mono (setF_mono (.inr ⟨s5.symm, Int.le_of_eq s6.symm⟩)) fun j _ u hu => hu⟩
        have := sides_set (i := i) (M := st.M) (sent := st.sent) (got := st.got) (m' := setM (st.M i) (u64 wh % 3) (decide (t % 2 = 0))) (s' := st.sent i) (g' := st.got i) hi (SA.keepS s1 s2 (by rw [s3]) s4) (SB.keepR s5 s6 s7 (by rw [s8]; exact fun a h => h))
        rw [setF_same st.got, setF_same st.sent] at this
        exact this
      · split
        · exact ⟨h.side, h.fr⟩
        · rename_i f hf
          have hfr := h.fr f (List.mem_of_getElem? hf)
          have hj := hfr.to
          split
          · -- a frame arrives
            clear SA SB e11 hi' hi
            generalize hair : (if q = 4 then st.air.eraseIdx k else st.air) = air'
            have hsub : ∀ f ∈ air', f ∈ st.air := by
              intro g hg
              rw [← hair] at hg
              split at hg
              · exact List.mem_of_mem_eraseIdx hg
              · exact hg
            have hj' : 1 - f.to < 2 := by omega
            have e11 : 1 - (1 - f.to) = f.to := by omega
            have SA := h.side f.to hj
            have SB := h.side (1 - f.to) hj'
            rw [e11] at SB
            by_cases hE : inE (st.M f.to) f.wire f.by_ now = 0
            rotate_left
            · obtain ⟨n1, n2⟩ := in_no hE
              rw [n1, n2, List.append_nil, setF_same, setF_same]
              exact ⟨h.side, fun g hg => h.fr g (hsub g hg)⟩
            rcases hfr.ok with ⟨_, h1⟩ | ⟨_, ⟨u, hu, e⟩ | ⟨m, g, ha, e⟩⟩
            · exact absurd (in_zero hE) h1
            · obtain ⟨g1, g2, g3, g4, g5, g6, g7⟩ := unit_ok hsz SB.dl SB.dn hu
              rw [e] at hE ⊢
              obtain ⟨n1, n2⟩ := in_dat g7 (by omega) hE
              rw [n1, n2]
              obtain ⟨k1, k2⟩ := side_take (x := f.wire) (now := now) hsz SB hu
              obtain ⟨t1, t2, t3, t4⟩ := takeM_more (M := { st.M f.to with clock := now }) (m := u.m) (f := u.f) (last := u.last) (d := u.d)
              refine ⟨?_, fun g hg => (h.fr g (hsub g hg)).mono (setF_mono k2) fun j _ u hu => hu⟩
              have := sides_set (i := f.to) (M := st.M) (sent := st.sent) (got := st.got) (m' := addA (takeM { st.M f.to with clock := now } u.m u.f u.last u.d) f.wire) (s' := st.sent f.to) (g' := st.got f.to ++ takeV (st.M f.to) u.m u.f u.last u.d) hj (SA.keepS t1 t2 (by show (takeM { st.M f.to with clock := now } u.m u.f u.last u.d).us.map key = _; rw [t3]) t4) k1
              rw [setF_same st.sent] at this
              exact this
            · have hen := ack_enc ha
              have hma := ha.2.1
              rw [e] at hE ⊢
              obtain ⟨n1, n2⟩ := in_ack2 hen (by omega) hE
              rw [n1, n2, List.append_nil]
              have ht0 : timeE (st.M f.to) now = 0 := by
                unfold inE at hE
                split at hE
                · cases hE
                · split at hE
                  · rename_i h2; exact absurd hE h2
                  · rename_i h2; exact Decidable.not_not.1 h2
              obtain ⟨k1, k2, k3, k4, k5⟩ := side_ack (S := { st.M f.to with clock := now }) (n := n) (SA.keepS rfl rfl rfl rfl) (inv_clock (hI f.to hj) ht0) ha
              refine ⟨?_, fun g hg => (h.fr g (hsub g hg)).mono (setF_mono (.inr ⟨k2.symm, Int.le_of_eq k3.symm⟩)) fun j _ u hu => hu⟩
              have := sides_set (i := f.to) (M := st.M) (sent := st.sent) (got := st.got) (m' := ackM { st.M f.to with clock := now } m g) (s' := st.sent f.to) (g' := st.got f.to) hj k1 (SB.keepR k2 k3 k4 (by rw [k5]; exact fun a h => h))
              rw [setF_same st.sent] at this
              exact this
          · split
            · exact ⟨h.side, fun g hg => h.fr g (List.mem_of_mem_eraseIdx hg)⟩
            · split
              · -- a byte is changed
                rename_i hq
                refine ⟨h.side, fun g hg => ?_⟩
                rcases List.mem_or_eq_of_mem_set hg with hg | rfl
                · exact h.fr g hg
                · rcases hfr.ok with ⟨h1, _⟩ | ⟨_, ⟨u, hu, e⟩ | ⟨m, g, ha, e⟩⟩
                  · rw [hq.2] at h1; cases h1
                  · have SB := h.side (1 - f.to) (by omega)
                    obtain ⟨g1, g2, g3, g4, g5, g6, g7⟩ := unit_ok hsz SB.dl SB.dn hu
                    obtain ⟨c1, c2, c3⟩ := chgB_dec (t := t) g7 (by omega) g6
                    refine ⟨hj, ?_, ?_, .inl ⟨rfl, ?_⟩⟩
                    · show ByteL (chgB f.by_ t); rw [e]; exact c2
                    · show 24 ≤ (chgB f.by_ t).length ∧ (chgB f.by_ t).length ≤ 4120; rw [e, c3]; omega
                    · show decE (chgB f.by_ t) ≠ 0; rw [e]; exact c1
                  · have hen := ack_enc ha
                    have hma := ha.2.1
                    obtain ⟨c1, c2, c3⟩ := chgB_dec (t := t) hen (by omega) nil_byte
                    refine ⟨hj, ?_, ?_, .inl ⟨rfl, ?_⟩⟩
                    · show ByteL (chgB f.by_ t); rw [e]; exact c2
                    · show 24 ≤ (chgB f.by_ t).length ∧ (chgB f.by_ t).length ≤ 4120; rw [e, c3]; exact ⟨by omega, by simp⟩
                    · show decE (chgB f.by_ t) ≠ 0; rw [e]; exact c1
              · exact ⟨h.side, h.fr⟩
end
end Go.Proofs.Ytmnpndgmfmjfhaa.Den
end

section
set_option linter.unusedVariables false
set_option linter.unusedSimpArgs false
set_option maxRecDepth 8000
namespace Go.Proofs.Ytmnpndgmfmjfhaa.Den
open Go Go.RowKit
/-- A step as Lean data. -/
structure StA where
  kd : Int
  wh : Int
  t : Nat
  s : Value
  xs : List Int
def StA.cells (a : StA) : List Value := [I a.kd, I a.wh, .int .u8 (a.t : Int), a.s]
structure StOk (w0 : Base) (a : StA) : Prop where
  rd : RdL w0 [] 1 a.s a.xs.length (bv a.xs)
  sc : scalar a.s = true
  by_ : ByteL a.xs
  t : a.t < 256
theorem st_lens (l : List StA) : ∀ c ∈ l.map StA.cells, c.length = 4 := by
  intro c hc; obtain ⟨o, _, rfl⟩ := List.mem_map.1 hc; rfl
theorem ixL4_rd {w : World} {w0 : Base} {L : List Chunk} {sz m i : Nat} {v : Value} {ls : List (List Value)} {l : List Value} {K : VK} (h : RdL w0 [] sz v m ls.flatten) (hls : ∀ l ∈ ls, l.length = sz) (hm : m = ls.length) (hz : 0 < sz) (hl : ls[i]? = some l) (H : Hp w0 w L) (k : K (.agg ⟨l⟩) w) :
    pv (ixS sz v (.int .i64 (i : Int))) (fun p => ldN sz p K) w := by
  have hr := (h.mono (L' := L) (by simp)).rd H
  obtain ⟨a, e, h2⟩ := hr.at (j := i) (by rw [hm]; exact (List.getElem?_eq_some_iff.1 hl).1) hz (k := .i64)
  rw [e, pv_some]
  have hll := hls l (List.mem_of_getElem? hl)
  have : cellsAt w a 0 sz = some l := (cellsAt_spec _ _ _).2 ⟨hll, fun j hj => by rw [Nat.zero_add, h2 j hj]; exact flat_getQ hls hl hj⟩
  simp only [ldN, this]; exact k
theorem new_inv' {a b c d : Int} (h : newE a b c d = 0) : LInv 0 (newM a.toNat b c d) ∧ (c = 0 ∨ c = 1 ∨ c = 2) := by
  unfold newE at h
  split at h
  · cases h
  · rename_i h1
    split at h
    · cases h
    · rename_i h2
      exact ⟨inv_new (by omega) (by omega) (by omega) (by omega), by omega⟩
section
variable {w w' : World} {w0 : Base} {F L : List Chunk} {R : ER}
theorem tk_inv {tb n : Nat} {st : TS} (hT : TkM w0 tb n st L) : ∀ i, i < 2 → LInv n (st.M i) := by
  obtain ⟨b, r, La, Lb, av, ca, Da, sva, ss, gs, cs, Ds, cg, Dg, svs, svg, hB, hA, hS, hG, rfl⟩ := hT
  exact fun i hi => (hB i hi).i
/-- What one side got is a prefix of what the other one has sent. -/
theorem tk_chk {tb n i sz : Nat} {st : TS} {k1 : V4} {k2 : V5} {x24 x25 x26 : Value} (hT : TkM w0 tb n st L) (hi : i < 2) (hsd : Side sz (st.sent i) (st.M i) (st.M (1 - i)) (st.got (1 - i))) (H : Hp w0 w (L ++ F))
    (hk : ∀ w', Hp w0 w' (L ++ F) → k2 (ptr tb 0) x24 x25 x26 (I ((i + 1 : Nat) : Int)) w') : F9_j11 R k1 k2 (ptr tb 0) x24 x25 x26 (I (i : Int)) w := by
  obtain ⟨b, r, La, Lb, av, ca, Da, sva, ss, gs, cs, Ds, cg, Dg, svs, svg, hB, hA, hS, hG, rfl⟩ := hT
  have hi' : 1 - i < 2 := by omega
  have hgl := hsd.gl
  have hdn := hsd.dn
  have hdone := hsd.done
  unfold F9_j11 F9_j13
  have H1 := H.drew
  try simp only [WKt, mem, drewV]
  rw [wrap64_id (by omega) (by omega), show (1 : Int) - (i : Int) = ((1 - i : Nat) : Int) from by omega]
  rw [ixA_mk hi', ixA_mk hi]
  try simp only [WKt, mem, drewV]
  refine ld_h H1 0 rfl (tk_g hi') ?_
  refine ld_h H1 0 rfl (tk_s hi) ?_
  unfold F9_j17
  rw [lenS_sl (hG _ hi').sl, lenS_sl (hS _ hi).sl]
  try simp only [WKt, mem, drewV]
  simp only [decide_eq_false (show ¬ (((st.sent i).length : Nat) : Int) < (((st.got (1 - i)).length : Nat) : Int) from by omega), WKt, mem, drewV]
  rw [ixA_mk hi]
  try simp only [WKt, mem, drewV]
  refine ld_h H1 0 rfl (tk_b hi) ?_
  have mem : ∀ j, j < 2 → ∀ c ∈ sideC La Lb cs Ds cg Dg j, c ∈ (⟨tb, 39, tkL b r av st.now ss gs⟩ :: (ca ++ (Da ++ (sideC La Lb cs Ds cg Dg 0 ++ sideC La Lb cs Ds cg Dg 1)))) ++ F := by
    intro j hj c hc
    rcases (show j = 0 ∨ j = 1 by omega) with rfl | rfl <;> simp [hc]
  have ack : Calls Pg 25 ⟨[ptr (b i) 0]⟩ w.drew fun e w' => e = .returned (I (st.M i).done) ∧ Hp w0 w' ((⟨tb, 39, tkL b r av st.now ss gs⟩ :: (ca ++ (Da ++ (sideC La Lb cs Ds cg Dg 0 ++ sideC La Lb cs Ds cg Dg 1)))) ++ F) := by
    rcases (show i = 0 ∨ i = 1 by omega) with rfl | rfl
    · refine (Ack_specP (F := ⟨tb, 39, tkL b r av st.now ss gs⟩ :: (ca ++ (Da ++ (Lb 0 ++ (cs 0 ++ (Ds 0 ++ (cg 0 ++ (Dg 0 ++ (sideC La Lb cs Ds cg Dg 1 ++ F))))))))) (H1.to (by intro f; simp only [sideC, List.map_append, List.map_cons, List.cons_append, List.sum_append, List.sum_cons]; omega)) (hB 0 (by decide)).a).mono ?_
      rintro _ w' ⟨rfl, H'⟩
      exact ⟨rfl, H'.to (by intro f; simp only [sideC, List.map_append, List.map_cons, List.cons_append, List.sum_append, List.sum_cons]; omega)⟩
    · refine (Ack_specP (F := ⟨tb, 39, tkL b r av st.now ss gs⟩ :: (ca ++ (Da ++ (Lb 1 ++ (cs 1 ++ (Ds 1 ++ (cg 1 ++ (Dg 1 ++ (sideC La Lb cs Ds cg Dg 0 ++ F))))))))) (H1.to (by intro f; simp only [sideC, List.map_append, List.map_cons, List.cons_append, List.sum_append, List.sum_cons]; omega)) (hB 1 (by decide)).a).mono ?_
      rintro _ w' ⟨rfl, H'⟩
      exact ⟨rfl, H'.to (by intro f; simp only [sideC, List.map_append, List.map_cons, List.cons_append, List.sum_append, List.sum_cons]; omega)⟩
  refine cal_h ack ?_
  rintro _ w2 ⟨rfl, H2⟩
  simp only [lenS_sl (hG _ hi').sl, WKt, mem, drewV]
  simp only [decide_eq_false (show ¬ (((st.got (1 - i)).length : Nat) : Int) < (st.M i).done from by omega), WKt, mem, drewV]
  unfold F9_j14
  rw [lenS_sl (hG _ hi').sl]
  try simp only [WKt, mem, drewV]
  unfold F9_j15
  refine ⟨(st.got (1 - i)).length + 1, ?_⟩
  generalize hLL : (⟨tb, 39, tkL b r av st.now ss gs⟩ :: (ca ++ (Da ++ (sideC La Lb cs Ds cg Dg 0 ++ sideC La Lb cs Ds cg Dg 1)))) ++ F = LL at H2 mem hk
  have memG : ∀ c ∈ cg (1 - i), c ∈ LL := fun c hc => mem _ hi' c (by simp [sideC, hc])
  have memD : ∀ c ∈ Dg (1 - i), c ∈ LL := fun c hc => mem _ hi' c (by simp [sideC, hc])
  have memS : ∀ c ∈ cs i, c ∈ LL := fun c hc => mem _ hi c (by simp [sideC, hc])
  have memE : ∀ c ∈ Ds i, c ∈ LL := fun c hc => mem _ hi c (by simp [sideC, hc])
  have key : ∀ (d j : Nat) (w : World), j + d = (st.got (1 - i)).length → Hp w0 w LL → F9_l1 R k1 k2 (d + 1) (ptr tb 0) (gs (1 - i)) (ss i) x24 x25 x26 (I (i : Int)) (I ((st.got (1 - i)).length : Int)) (I (j : Int)) w := by
    intro d
    induction d with
    | zero =>
      intro j w hj H
      rw [F9_l1_succ]
      unfold F9_b3
      simp only [WKt, mem, drewV, show decide ((j : Int) < ((st.got (1 - i)).length : Int)) = false from decide_eq_false (by omega)]
      unfold F9_j12
      try simp only [WKt, mem, drewV]
      rw [wrap64_id (by omega) (by omega), show (i : Int) + 1 = ((i + 1 : Nat) : Int) from by omega]
      exact hk w H
    | succ d ih =>
      intro j w hj H
      rw [F9_l1_succ]
      unfold F9_b3
      simp only [WKt, mem, drewV, show decide ((j : Int) < ((st.got (1 - i)).length : Int)) = true from decide_eq_true (by omega)]
      unfold F9_j16
      have hlt : j < (st.got (1 - i)).length := by omega
      obtain ⟨v, hv⟩ : ∃ v, (st.got (1 - i))[j]? = some v := ⟨_, List.getElem?_eq_getElem hlt⟩
      have hv2 : (st.sent i)[j]? = some v := by
        have := hsd.got
        rw [this, List.getElem?_take_of_lt hlt] at hv
        exact hv
      have hvl := (hsd.dl v (List.mem_of_getElem? hv2)).1
      obtain ⟨a1, ha1⟩ : ∃ a, (svg (1 - i))[j]? = some a := ⟨_, List.getElem?_eq_getElem (by rw [(hG _ hi').svl]; exact hlt)⟩
      obtain ⟨a2, ha2⟩ : ∃ a, (svs i)[j]? = some a := ⟨_, List.getElem?_eq_getElem (by rw [(hS _ hi).svl]; omega)⟩
      have H := H.drew
      refine ix1_rd (((hG _ hi').sl.rdL (w0 := w0) memG).rd H) ha1 ?_
      refine ix1_rd (((hS _ hi).sl.rdL (w0 := w0) memS).rd H) ha2 ?_
      try simp only [WKt, mem, drewV]
      refine cal_h (Equal_spec H (((hG _ hi').dat j v a1 hv ha1).mono memD) (((hS _ hi).dat j v a2 hv2 ha2).mono memE) (by omega)) ?_
      rw [decide_eq_true rfl]
      rintro _ w3 ⟨rfl, H3⟩
      try simp only [WKt, mem, drewV]
      rw [wrap64_id (by omega) (by omega), show (j : Int) + 1 = ((j + 1 : Nat) : Int) from by omega]
      exact ih (j + 1) w3 (by omega) H3
  exact key _ 0 w2 (by omega) H2
theorem stepS_sent {st : TS} {kd wh : Int} {t : Nat} {xs : List Int} {n : Nat} (h : ∀ i, i < 2 → (st.sent i).length ≤ n) : ∀ i, i < 2 → ((stepS st kd wh t xs).sent i).length ≤ n + 1 := by
  intro i hi
  have h0 := h i hi
  unfold stepS
  simp only
  split
  · by_cases e : i = q10 kd % 2
    · subst e
      show (setF st.sent (q10 kd % 2) _ (q10 kd % 2)).length ≤ _
      rw [setF_self]
      split
      · simp only [List.length_append, List.length_cons, List.length_nil]; omega
      · omega
    · show (setF st.sent (q10 kd % 2) _ i).length ≤ _
      rw [setF_ne _ _ e]; omega
  · split
    · exact Nat.le_succ_of_le h0
    · split
      · exact Nat.le_succ_of_le h0
      · split
        · exact Nat.le_succ_of_le h0
        · split
          · exact Nat.le_succ_of_le h0
          · split
            · exact Nat.le_succ_of_le h0
            · split <;> exact Nat.le_succ_of_le h0
theorem stepS_air {st : TS} {kd wh : Int} {t : Nat} {xs : List Int} {n : Nat} (h : st.air.length ≤ n * 1000) (hn : n < 500) (hI : ∀ i, i < 2 → LInv n (st.M i)) : (stepS st kd wh t xs).air.length ≤ (n + 1) * 1000 := by
  have hi : q10 kd % 2 < 2 := Nat.mod_lt _ (by decide)
  have h1 := outV_len2 (M := st.M (q10 kd % 2)) (now := st.now + ((t % 8 : Nat) : Int)) (hI _ hi).wf.up8
  have h2 := (hI _ hi).an
  unfold stepS
  simp only
  split
  · show st.air.length ≤ _; omega
  · split
    · show (st.air ++ flOf _ _).length ≤ _
      rw [List.length_append]
      unfold flOf
      rw [List.length_map]; omega
    · split
      · show st.air.length ≤ _; omega
      · split
        · show st.air.length ≤ _; omega
        · split
          · show (if _ then _ else _ : List Fl).length ≤ _
            split
            · have := List.length_eraseIdx_le st.air (if st.air.length = 0 then 0 else (u64 wh % (st.air.length : Int)).toNat)
              omega
            · omega
          · split
            · show (List.eraseIdx _ _).length ≤ _
              have := List.length_eraseIdx_le st.air (if st.air.length = 0 then 0 else (u64 wh % (st.air.length : Int)).toNat)
              omega
            · split
              · show (List.set _ _ _).length ≤ _
                rw [List.length_set]; omega
              · show st.air.length ≤ _; omega
theorem stepS_now {st : TS} {kd wh : Int} {t : Nat} {xs : List Int} : (stepS st kd wh t xs).now = st.now + ((t % 8 : Nat) : Int) := by
  unfold stepS
  simp only
  split
  · rfl
  · split
    · rfl
    · split
      · rfl
      · split
        · rfl
        · split
          · rfl
          · split
            · rfl
            · split <;> rfl
theorem LinksTalks_walk {a b c d : Int} {v : Value} {sts : List StA} (hr : RdL w0 [] 4 v sts.length ((sts.map StA.cells).flatten)) (hok : ∀ s ∈ sts, StOk w0 s) (H : Hp w0 w F) :
    Calls Pg 9 ⟨[.agg ⟨[I a, I b, I c, I d]⟩, v]⟩ w fun e w' => e = .returned (.bool true) ∧ Hp w0 w' F := by
  apply F9_calls
  unfold F9
  refine bxa_h H fun w1 vb H1 => ?_
  refine ldA_h H1 0 rfl rfl ?_
  refine cal_h (begin_spec (a := a) (b := b) (c := c) (d := d) H1) ?_
  rintro _ w2 ⟨tb, b0, b1, r0, r1, L0, L1, L2, L3, rfl, H2, hL0, hL1, hL2, hL3⟩
  simp only [WKt, mem, drewV]
  unfold F9_j1
  simp only [lenS_rdL hr, WKt, mem, drewV]
  by_cases hl : (60 : Int) < (sts.length : Int)
  · simp only [decide_eq_true hl, WKt, mem, drewV]
    refine cal_h (awake_spec H2) ?_
    rintro _ w3 ⟨rfl, H3⟩
    exact ⟨rfl, H3.to (by intro f; simp only [I, U8, U64, ptr, List.set_cons_zero, List.set_cons_succ, List.eraseIdx_cons_zero, List.eraseIdx_cons_succ, List.map_append, List.map_cons, List.map_nil, List.sum_append, List.sum_cons, List.sum_nil]; omega)⟩
  simp only [decide_eq_false hl, WKt, mem, drewV]
  unfold F9_j2 F9_j4
  simp only [lenS_rdL hr, WKt, mem, drewV]
  unfold F9_j5
  refine ⟨sts.length + 1, ?_⟩
  obtain ⟨hi0, hq0⟩ := new_inv' (cf_ok a b c d)
  have hu := Int.emod_nonneg b (show (18446744073709551616 : Int) ≠ 0 by decide)
  have hS : 32 ≤ cfS b ∧ cfS b ≤ 95 := by unfold cfS u64; omega
  obtain ⟨sz, hsz⟩ : ∃ sz : Nat, (sz : Int) = cfS b - 24 := ⟨(cfS b - 24).toNat, by omega⟩
  have key : ∀ (d' i : Nat) (w : World) (st : TS) (L G : List Chunk), i + d' = sts.length → TkM w0 tb i st L → TInv sz st → (∀ j, j < 2 → (st.sent j).length ≤ i) → st.air.length ≤ i * 1000 → (0 ≤ st.now ∧ st.now ≤ 8 * (i : Int)) → Hp w0 w (L ++ (G ++ F)) →
      F9_l3 (fun e w' => e = .returned (.bool true) ∧ Hp w0 w' F) (d' + 1) (ptr tb 0) v (I (sts.length : Int)) (I (i : Int)) w := by
    intro d'
    induction d' with
    | zero =>
      intro i w st L G hi hT hV hsl hal hnow H
      rw [F9_l3_succ]
      unfold F9_b1
      simp only [WKt, mem, drewV, show decide ((i : Int) < (sts.length : Int)) = false from decide_eq_false (by omega)]
      unfold F9_j3
      refine cal_h (awake_spec H) ?_
      rintro _ w3 ⟨rfl, H3⟩
      exact ⟨rfl, H3.to (by intro f; simp only [List.map_append, List.sum_append]; omega)⟩
    | succ d' ih =>
      intro i w st L G hi hT hV hsl hal hnow H
      rw [F9_l3_succ]
      unfold F9_b1
      simp only [WKt, mem, drewV, show decide ((i : Int) < (sts.length : Int)) = true from decide_eq_true (by omega)]
      unfold F9_j6 F9_j8
      have hlt : i < sts.length := by omega
      obtain ⟨s, hs⟩ : ∃ s, sts[i]? = some s := ⟨_, List.getElem?_eq_getElem hlt⟩
      have hso := hok s (List.mem_of_getElem? hs)
      refine ixL4_rd (ls := sts.map StA.cells) hr (st_lens sts) (by simp) (by omega) (by rw [List.getElem?_map, hs]; rfl) H ?_
      refine al_h H (z := [I 0, I 0, .int .u8 0, .slice none 0 0]) (by kernel_rfl) fun w1 xb H1 => ?_
      have hsc := hso.sc
      refine stA_h H1 0 rfl rfl rfl (by intro c hc; simp [StA.cells] at hc; rcases hc with rfl | rfl | rfl | rfl <;> first | rfl | exact hsc) fun w3 H3 => ?_
      refine ldA_h H3 0 rfl rfl ?_
      have H4 : Hp w0 w3 (L ++ ((⟨xb, 85, s.cells⟩ :: G) ++ F)) := H3.to (by intro f; simp only [List.set_cons_zero, List.cons_append, List.map_append, List.map_cons, List.sum_append, List.sum_cons]; omega)
      have hIv := tk_inv hT
      have hfl : ∀ f ∈ st.air, FlOk f := by
        intro f hf
        have := hV.fr f hf
        refine ⟨this.to, by have := this.len; omega, by have := this.len; omega, ?_⟩
        unfold dB
        rw [List.getD_eq_getElem?_getD]
        cases he : f.by_[1]? with
        | none => exact Int.le_refl _
        | some x => exact (this.by_ x (List.mem_of_getElem? he)).1
      have hgot : ∀ j, j < 2 → (st.got j).length < 2 ^ 20 ∧ (st.sent j).length < 2 ^ 20 := by
        intro j hj
        have h1 := (hV.side (1 - j) (by omega)).gl
        rw [show 1 - (1 - j) = j from by omega] at h1
        have h2 := hsl (1 - j) (by omega)
        have h3 := hsl j hj
        omega
      refine cal_h (tk_step (n := i) (t := s.t) (kd := s.kd) (wh := s.wh) (s := s.s) (xs := s.xs) hT (by omega) hso.t hso.rd hfl (by omega) hgot (by omega) H4) ?_
      rintro _ w5 ⟨rfl, L', hT', H5⟩
      have hIv' := tk_inv hT'
      have hV' := tinv_step (n := i) (kd := s.kd) (wh := s.wh) (t := s.t) (by omega) hV hIv (fun j hj => by have := hsl j hj; omega) hso.by_
      simp only [WKt, mem, drewV]
      unfold F9_j9 F9_j10
      refine ⟨2 + 1, ?_⟩
      show F9_l2 _ _ (2 + 1) _ _ _ _ _ w5
      rw [F9_l2_succ]
      unfold F9_b2
      simp only [show decide ((0 : Int) < 2) = true from rfl, WKt, mem, drewV]
      refine tk_chk (i := 0) hT' (by decide) (hV'.side 0 (by decide)) H5 fun w6 H6 => ?_
      show F9_l2 _ _ (1 + 1) _ _ _ _ _ w6
      rw [F9_l2_succ]
      unfold F9_b2
      simp only [show decide (((0 + 1 : Nat) : Int) < 2) = true from rfl, WKt, mem, drewV]
      refine tk_chk (i := 1) hT' (by decide) (hV'.side 1 (by decide)) H6 fun w7 H7 => ?_
      show F9_l2 _ _ (0 + 1) _ _ _ _ _ w7
      rw [F9_l2_succ]
      unfold F9_b2
      simp only [show decide (((1 + 1 : Nat) : Int) < 2) = false from rfl, WKt, mem, drewV]
      unfold F9_j7
      simp only [WKt, mem, drewV]
      rw [wrap64_id (by omega) (by omega), show (i : Int) + 1 = ((i + 1 : Nat) : Int) from by omega]
      refine ih (i + 1) w7 _ L' _ (by omega) hT' hV' (stepS_sent hsl) (stepS_air hal (by omega) hIv) ?_ H7
      rw [stepS_now]
      have : s.t % 8 < 8 := Nat.mod_lt _ (by decide)
      omega
  have hM : ∀ i, i < 2 → Both w0 ((fun i => if i = 0 then b0 else b1) i) ((fun i => if i = 0 then r0 else r1) i) 0 ((fun _ => cfM a b c d) i) ((fun i => if i = 0 then L0 else L1) i) ((fun i => if i = 0 then L2 else L3) i) := by
    intro i hi
    rcases (show i = 0 ∨ i = 1 by omega) with rfl | rfl
    · exact ⟨hL0, hL2, hi0, hq0⟩
    · exact ⟨hL1, hL3, hi0, hq0⟩
  refine key sts.length 0 w2 ⟨fun _ => cfM a b c d, [], 0, fun _ => [], fun _ => []⟩ _ [⟨vb, 23, [I a, I b, I c, I d]⟩] (by omega)
    ⟨fun i => if i = 0 then b0 else b1, fun i => if i = 0 then r0 else r1, fun i => if i = 0 then L0 else L1, fun i => if i = 0 then L2 else L3, nilS, [], [], [], fun _ => nilS, fun _ => nilS, fun _ => [], fun _ => [], fun _ => [], fun _ => [], fun _ => [], fun _ => [], hM, ⟨Sl.nil, rfl, fun i f s h => by simp at h⟩, fun i _ => MsgP.nil, fun i _ => MsgP.nil, rfl⟩
    ⟨fun i _ => ⟨by show cfS b = _; omega, by simp, by simp, rfl, ⟨0, by simp, rfl⟩, rfl, rfl, by simp, ⟨0, rfl, by omega, .inl ⟨rfl, rfl⟩⟩, fun a ha => by simp [cfM, newM] at ha, by show (0 : Int) ≤ _; simp⟩, fun f hf => by simp at hf⟩ (by simp) (by simp) (by simp) ?_
  exact H2.to (by intro f; simp only [sideC, List.map_append, List.map_cons, List.map_nil, List.cons_append, List.nil_append, List.append_nil, List.sum_append, List.sum_cons, List.sum_nil, if_true, Nat.one_ne_zero, if_false]; show _ ≤ _; unfold tkc tkL; simp only [if_true, Nat.one_ne_zero, if_false]; omega)
end
end Go.Proofs.Ytmnpndgmfmjfhaa.Den
end

section
set_option linter.unusedVariables false
set_option linter.unusedSimpArgs false
namespace Go.Proofs.Ytmnpndgmfmjfhaa.Den
open Go Go.Joins Go.RowKit Go.ChangeShapes Go.WideShapes Go.ChangeAt Go.Deep
/-- Each part of a reading takes at most what there is room for. -/
def Fits {H : Type} (P : Program) (t : TypeId) (d : DataW H) : Prop := ∀ n ∈ d.weights P t, n ≤ reachBytes
section
variable {H : Type} {enc : TypeId × Value → H} {P : Program} {w : World} {base : Nat} {spare : Nat → Bool} {held : Bool}
theorem weightsAll_in {e : TypeId} : ∀ {l : List (DataW H)} {d : DataW H}, d ∈ l → ∀ n ∈ d.weights P e, n ∈ DataW.weightsAll P e l
  | a :: l, d, h, n, hn => by
    simp only [DataW.weightsAll, List.mem_append]
    rcases List.mem_cons.1 h with rfl | h
    · exact .inl hn
    · exact .inr (weightsAll_in h n hn)
theorem fits_each {ts : List TypeId} {ds : List (DataW H)} (h : (DataW.weightsEach P ts ds).all (· ≤ reachBytes) = true) {j : Nat} {t : TypeId} {d : DataW H} (ht : ts[j]? = some t) (hd : ds[j]? = some d) : Fits P t d := by
  intro n hn
  have := List.all_eq_true.1 h _ (DataW.weights_mem_each ht hd n hn)
  simpa using this
theorem slice_fits {α : Type} {en : α → List Value} {sz : Nat} {p : α → Prop} {t e : TypeId} {fuel : Nat} {cs : List Value} {x : DataW H × List MemPlace} (ht : P.underlying t = some (.slice e)) (hC : P.cellsOf e = sz)
    (hop : ∀ fuel cs x, DataW.trod enc P w base spare held fuel e cs = some x → cs.length = sz → Fits P e x.1 → ∃ a, cs = en a ∧ p a) (hw : Fits P t x.1) (h : DataW.trod enc P w base spare held fuel t cs = some x) :
    ∃ (xs : List α), (∀ a ∈ xs, p a) ∧ xs.length * P.bytesOf e ≤ reachBytes ∧ xs.length < 2 ^ 63 ∧ ((cs = [.slice none 0 0] ∧ xs = []) ∨ ∃ a cap, cs = [.slice (some a) xs.length cap] ∧ xs.length ≤ cap ∧
      ∀ (i : Nat) x, xs[i]? = some x → ∀ j, j < sz → w.cell? (a.add (i * sz + j)) = (en x)[j]?) := by
  rcases open_slice ht h with ⟨h0, _⟩ | ⟨a, len, cap, m, n, D, Pl, hcs, hb, hl, hcap, hmm, hx, hi⟩
  · exact ⟨[], by simp, by simp, by simp, .inl ⟨h0, rfl⟩⟩
  · have hlm : len ≤ m := by rw [hmm]; split <;> omega
    have hwe : ∀ i, i < len → Fits P e (D i) := by
      intro i hi n hn
      refine hw n ?_
      rw [hx]
      simp only [DataW.weights, ht, List.mem_cons, List.mem_append]
      exact .inr (.inl (weightsAll_in (List.mem_map.2 ⟨i, List.mem_range.2 hi, rfl⟩) n hn))
    have hlen : len * P.bytesOf e ≤ reachBytes := by
      have : (len + (m - len)) * P.bytesOf e ≤ reachBytes := by
        refine hw _ ?_
        rw [hx]
        simp only [DataW.weights, ht, List.mem_cons, List.length_map, List.length_range]
        exact .inl trivial
      exact Nat.le_trans (Nat.mul_le_mul_right _ (by omega)) this
    have hel : ∀ i, i < len → ∃ x : α, p x ∧ ∀ j, j < sz → w.cell? (a.add (i * sz + j)) = (en x)[j]? := by
      intro i hil
      obtain ⟨cs', hc, ht'⟩ := hi i (by omega)
      rw [hC] at hc
      obtain ⟨_, hcl, hat⟩ := World.cells?_some hc
      obtain ⟨x, rfl, hp⟩ := hop _ _ _ ht' hcl (hwe i hil)
      refine ⟨x, hp, fun j hj => ?_⟩
      rw [← Go.Deep.add_add]; exact hat j hj
    have hxs : ∃ xs : List α, xs.length = len ∧ ∀ (i : Nat) x, xs[i]? = some x → p x ∧ ∀ j, j < sz → w.cell? (a.add (i * sz + j)) = (en x)[j]? := by
      clear hi hx hmm hl hcap hcs hwe hlen hlm
      induction len with
      | zero => exact ⟨[], rfl, by simp⟩
      | succ len ih =>
        obtain ⟨xs, h1, h2⟩ := ih fun i hi => hel i (by omega)
        obtain ⟨x, hx⟩ := hel len (by omega)
        refine ⟨xs ++ [x], by simp [h1], fun i y hy => ?_⟩
        by_cases hi : i < xs.length
        · rw [List.getElem?_append_left hi] at hy; exact h2 i y hy
        · have hl := (List.getElem?_eq_some_iff.1 hy).1
          simp at hl
          obtain rfl : i = len := by omega
          rw [List.getElem?_append_right (by omega), h1, Nat.sub_self] at hy
          simp at hy; subst hy; exact hx
    obtain ⟨xs, h1, h2⟩ := hxs
    refine ⟨xs, fun y hy => ?_, by rw [h1]; exact hlen, ?_, .inr ⟨a, cap, by rw [h1]; exact hcs, by omega, fun i x hx => (h2 i x hx).2⟩⟩
    · obtain ⟨i, hi, e⟩ := List.getElem_of_mem hy
      exact (h2 i y (by rw [List.getElem?_eq_getElem hi, e])).1
    · have : maxLen < 2 ^ 63 := by decide
      omega
theorem struct_fits {t : TypeId} {fs : Array Field} {fuel : Nat} {cs : List Value} {x : DataW H × List MemPlace} (ht : P.underlying t = some (.struct fs)) (hone : oneCellFields P fs = true) (hl : cs.length = fs.size) (hw : Fits P t x.1)
    (h : DataW.trod enc P w base spare held fuel t cs = some x) : ∀ (j : Nat) (f : Field), fs[j]? = some f → ∃ (v : Value) (n : Nat) (y : DataW H × List MemPlace), cs[j]? = some v ∧ DataW.trod enc P w base spare held n f.type [v] = some y ∧ Fits P f.type y.1 := by
  obtain ⟨ys, n', hn', hy, hlen, hyl, hf⟩ := DataW.trod_struct ht h
  intro j f hj
  obtain ⟨ho, hk⟩ := hone_of hone j f hj
  have hjl : j < fs.size := (Array.getElem?_eq_some_iff.1 hj).1
  have h1 := hf j f hj
  rw [ho, hk] at h1
  have hone' : (cs.drop j).take 1 = [cs[j]'(by omega)] := by
    rw [List.drop_eq_getElem_cons (by omega)]
    rfl
  rw [hone'] at h1
  have hys : ys[j]? = some (ys[j]'(by omega)) := List.getElem?_eq_getElem (by omega)
  refine ⟨_, n', _, List.getElem?_eq_getElem (by omega), h1.trans hys, fun n hn => hw n ?_⟩
  rw [hy]
  simp only [DataW.weights, ht]
  exact DataW.weights_mem_each (j := j) (by simp only [List.getElem?_map, Array.getElem?_toList, hj, Option.map_some]) (by rw [List.getElem?_map, hys]; rfl) n hn
end
end Go.Proofs.Ytmnpndgmfmjfhaa.Den
end

section
set_option linter.unusedVariables false
set_option linter.unusedSimpArgs false
set_option maxRecDepth 8000
namespace Go.Proofs.Ytmnpndgmfmjfhaa.Den
open Go Go.Joins Go.RowKit Go.ChangeShapes Go.WideShapes Go.ChangeAt Go.Deep
section
variable {H : Type} {enc : TypeId × Value → H} {w : World} {base : Nat} {spare : Nat → Bool} {held : Bool}
theorem bytes_arg {b0 : Nat} {v : Value} {d : DataW H} {p : List MemPlace} (hv : Value.okWide Try.prog w .any b0 24 v) (h : DataW.Trod enc Try.prog w base spare held 24 v d p) :
    ∃ n xs, Rd w 1 v n (bv xs) ∧ ByteL xs ∧ n < 2 ^ 63 ∧ xs.length = n := by
  obtain ⟨a, l, c, rfl⟩ := okWide_slice und24 hv
  obtain ⟨fuel, hf⟩ := h
  obtain ⟨s, n, xs, hs, hr, hb, hn, hl⟩ := bytes_open hf
  simp [Value.cells] at hs
  rw [← hs] at hr
  exact ⟨n, xs, hr, hb, hn, hl⟩
theorem open_agg4 {r : Reach} {b0 : Nat} {t : TypeId} {f0 f1 f2 f3 : Field} {v : Value} {d : DataW H} {p : List MemPlace} {P : Program} (hs : P.underlying t = some (.struct #[f0, f1, f2, f3])) (hone : oneCellFields P #[f0, f1, f2, f3] = true) (hC : P.cellsOf t = 4)
    (hv : Value.okWide P w r b0 t v) (h : DataW.Trod enc P w base spare held t v d p) :
    ∃ (v0 v1 v2 v3 : Value) (y0 y1 y2 y3 : DataW H × List MemPlace) (n : Nat), v = .agg #[v0, v1, v2, v3] ∧
      DataW.trod enc P w base spare held n f0.type [v0] = some y0 ∧ DataW.trod enc P w base spare held n f1.type [v1] = some y1 ∧ DataW.trod enc P w base spare held n f2.type [v2] = some y2 ∧ DataW.trod enc P w base spare held n f3.type [v3] = some y3 := by
  obtain ⟨cs, rfl, hsz⟩ := okWide_struct hs hv
  obtain ⟨l⟩ := cs
  match l, hsz.trans hC with
  | [c0, c1, c2, c3], _ =>
    obtain ⟨fuel, hf⟩ := h
    obtain ⟨xs, n, _, hx, _, hlen, hg⟩ := DataW.trod_struct hs hf
    obtain ⟨o0, k0⟩ := hone_of hone 0 f0 rfl
    obtain ⟨o1, k1⟩ := hone_of hone 1 f1 rfl
    obtain ⟨o2, k2⟩ := hone_of hone 2 f2 rfl
    obtain ⟨o3, k3⟩ := hone_of hone 3 f3 rfl
    match xs, hlen with
    | [y0, y1, y2, y3], _ =>
      exact ⟨c0, c1, c2, c3, y0, y1, y2, y3, n, rfl, by simpa [Value.cells, o0, k0] using hg 0 f0 rfl, by simpa [Value.cells, o1, k1] using hg 1 f1 rfl, by simpa [Value.cells, o2, k2] using hg 2 f2 rfl, by simpa [Value.cells, o3, k3] using hg 3 f3 rfl⟩
theorem fields4 {fs : Array Field} (h : fs.size = 4) : ∃ f0 f1 f2 f3, fs = #[f0, f1, f2, f3] := by
  obtain ⟨l⟩ := fs
  match l, h with
  | [a, b, c, d], _ => exact ⟨a, b, c, d, rfl⟩
/-- A configuration that came in. -/
theorem conf_open {b0 : Nat} {v : Value} {d : DataW H} {p : List MemPlace} (hv : Value.okWide Try.prog w .any b0 23 v) (h : DataW.Trod enc Try.prog w base spare held 23 v d p) :
    ∃ a b c e, v = .agg ⟨[I a, I b, I c, I e]⟩ := by
  have hone : oneCellFields Try.prog (structOf 23) = true := by kernel_rfl
  have hS : (structOf 23).size = 4 := by kernel_rfl
  have hU : Try.prog.underlying 23 = some (.struct (structOf 23)) := by kernel_rfl
  have hF : ∀ j, fieldT 23 j = ((structOf 23)[j]?).map (·.type) := fun j => rfl
  have g0 : fieldT 23 0 = some 3 := by kernel_rfl
  have g1 : fieldT 23 1 = some 3 := by kernel_rfl
  have g2 : fieldT 23 2 = some 3 := by kernel_rfl
  have g3 : fieldT 23 3 = some 2 := by kernel_rfl
  rw [hF] at g0 g1 g2 g3
  generalize structOf 23 = fs at hone hS hU g0 g1 g2 g3
  obtain ⟨f0, f1, f2, f3, rfl⟩ := fields4 hS
  simp at g0 g1 g2 g3
  obtain ⟨v0, v1, v2, v3, y0, y1, y2, y3, n, rfl, t0, t1, t2, t3⟩ := open_agg4 hU hone (by kernel_rfl) hv h
  rw [g0] at t0; rw [g1] at t1; rw [g2] at t2; rw [g3] at t3
  obtain ⟨i0, rfl, _⟩ := int_cell und3 t0
  obtain ⟨i1, rfl, _⟩ := int_cell und3 t1
  obtain ⟨i2, rfl, _⟩ := int_cell und3 t2
  obtain ⟨i3, rfl, _⟩ := int_cell und2 t3
  exact ⟨i0, i1, i2, i3, rfl⟩
end
end Go.Proofs.Ytmnpndgmfmjfhaa.Den
end

section
set_option linter.unusedVariables false
set_option linter.unusedSimpArgs false
namespace Go.Proofs.Ytmnpndgmfmjfhaa.Den
open Go Go.Joins Go.RowKit Go.ChangeShapes Go.WideShapes Go.ChangeAt Go.Deep
theorem und85 : Try.prog.underlying 85 = some (.struct (structOf 85)) := by kernel_rfl
theorem und83 : Try.prog.underlying 83 = some (.slice 85) := by kernel_rfl
theorem field_ofP {t : TypeId} {j ft : Nat} (h : fieldT t j = some ft) : ∃ f : Field, (structOf t)[j]? = some f ∧ f.type = ft := by
  unfold fieldT at h
  cases hf : (structOf t)[j]? with
  | none => simp [hf] at h
  | some f => exact ⟨f, rfl, by simpa [hf] using h⟩
theorem rd_fits {α : Type} {en : α → List Value} {sz : Nat} {w : World} {cs : List Value} {xs : List α} (he : ∀ a, (en a).length = sz) (hz : 0 < sz)
    (h : (cs = [.slice none 0 0] ∧ xs = []) ∨ ∃ a cap, cs = [.slice (some a) xs.length cap] ∧ xs.length ≤ cap ∧ ∀ (i : Nat) x, xs[i]? = some x → ∀ j, j < sz → w.cell? (a.add (i * sz + j)) = (en x)[j]?) :
    ∃ s, cs = [s] ∧ Rd w sz s xs.length ((xs.map en).flatten) ∧ scalar s = true := by
  have hls : ∀ l ∈ xs.map en, l.length = sz := by intro l hl; obtain ⟨a, _, rfl⟩ := List.mem_map.1 hl; exact he a
  rcases h with ⟨rfl, rfl⟩ | ⟨a, cap, rfl, hcap, hc⟩
  · exact ⟨_, rfl, .inl ⟨0, rfl, by simp, rfl⟩, rfl⟩
  · refine ⟨_, rfl, .inr ⟨a, cap, rfl, hcap, (cellsAt_spec _ _ _).2 ⟨by rw [flat_length (sz := sz) hls, List.length_map], fun j hj => ?_⟩⟩, rfl⟩
    rw [Nat.zero_add]
    have hd : j / sz < xs.length := (Nat.div_lt_iff_lt_mul hz).2 hj
    have e : j / sz * sz + j % sz = j := by rw [Nat.mul_comm]; exact Nat.div_add_mod _ _
    have hm : j % sz < sz := Nat.mod_lt _ hz
    obtain ⟨y, hy⟩ : ∃ y, xs[j / sz]? = some y := ⟨_, List.getElem?_eq_getElem hd⟩
    have := hc _ y hy _ hm
    rw [e] at this
    rw [this]
    have := flat_getQ hls (i := j / sz) (j := j % sz) (l := en y) (by rw [List.getElem?_map, hy]; rfl) hm
    rw [e] at this
    exact this.symm
theorem bv_flat : ∀ xs : List Int, (xs.map fun n : Int => [U8 n]).flatten = bv xs
  | [] => rfl
  | a :: l => by rw [List.map_cons, List.flatten_cons, bv_flat l]; rfl
section
variable {H : Type} {enc : TypeId × Value → H} {w : World} {base : Nat} {spare : Nat → Bool} {held : Bool}
theorem bytes_fits {fuel : Nat} {cs : List Value} {x : DataW H × List MemPlace} (h : DataW.trod enc Try.prog w base spare held fuel 24 cs = some x) (hf : Fits Try.prog 24 x.1) :
    ∃ s xs, cs = [s] ∧ Rd w 1 s xs.length (bv xs) ∧ ByteL xs ∧ scalar s = true ∧ xs.length ≤ 2 ^ 47 := by
  obtain ⟨xs, hp, hl, _, h1⟩ := slice_fits (en := fun n : Int => [U8 n]) (sz := 1) (p := fun n => 0 ≤ n ∧ n < 256) und24 (by kernel_rfl) (fun fuel cs x h hl _ => by
    match cs, hl with
    | [v], _ =>
      obtain ⟨i, rfl, hw⟩ := int_cell und5 h
      exact ⟨i, rfl, u8_wf hw⟩) hf h
  obtain ⟨s, rfl, hr, hsc⟩ := rd_fits (sz := 1) (fun _ => rfl) (by decide) h1
  refine ⟨s, xs, rfl, ?_, hp, hsc, ?_⟩
  · have this := bv_flat xs
    rw [← this]; exact hr
  · rw [show Try.prog.bytesOf 5 = 1 from by kernel_rfl] at hl
    have : reachBytes < 2 ^ 47 := by decide
    omega
theorem sts_fits {fuel : Nat} {cs : List Value} {x : DataW H × List MemPlace} (h : DataW.trod enc Try.prog w base spare held fuel 83 cs = some x) (hf : Fits Try.prog 83 x.1) :
    ∃ (s : Value) (sts : List StA), cs = [s] ∧ RdL ⟨w, []⟩ [] 4 s sts.length ((sts.map StA.cells).flatten) ∧ (∀ o ∈ sts, StOk ⟨w, []⟩ o) := by
  obtain ⟨xs, hp, hl, _, h1⟩ := slice_fits (en := StA.cells) (sz := 4) (p := StOk ⟨w, []⟩) und83 (by kernel_rfl) (fun fuel cs x h hl hf => by
    have hc := struct_fits und85 (by kernel_rfl) (hl.trans (by kernel_rfl)) hf h
    match cs, hl with
    | [v0, v1, v2, v3], _ =>
      obtain ⟨f0, g0, e0⟩ := field_ofP (t := 85) (j := 0) (ft := 3) (by kernel_rfl)
      obtain ⟨_, _, _, c0, t0, _⟩ := hc 0 f0 g0
      obtain ⟨f1, g1, e1⟩ := field_ofP (t := 85) (j := 1) (ft := 3) (by kernel_rfl)
      obtain ⟨_, _, _, c1, t1, _⟩ := hc 1 f1 g1
      obtain ⟨f2, g2, e2⟩ := field_ofP (t := 85) (j := 2) (ft := 5) (by kernel_rfl)
      obtain ⟨_, _, _, c2, t2, _⟩ := hc 2 f2 g2
      obtain ⟨f3, g3, e3⟩ := field_ofP (t := 85) (j := 3) (ft := 24) (by kernel_rfl)
      obtain ⟨_, _, _, c3, t3, w3⟩ := hc 3 f3 g3
      rw [e0] at t0; rw [e1] at t1; rw [e2] at t2; rw [e3] at t3 w3
      simp at c0 c1 c2 c3
      subst c0 c1 c2 c3
      obtain ⟨a, rfl, _⟩ := int_cell und3 t0
      obtain ⟨b, rfl, _⟩ := int_cell und3 t1
      obtain ⟨c, rfl, hw⟩ := int_cell und5 t2
      have hu := u8_wf hw
      obtain ⟨s, xs, hs, hr, hb, hsc, _⟩ := bytes_fits t3 w3
      injection hs with hs _; subst hs
      refine ⟨⟨a, b, c.toNat, _, xs⟩, ?_, .inl hr, hsc, hb, ?_⟩
      · show _ = [I a, I b, .int .u8 ((c.toNat : Nat) : Int), _]
        rw [Int.toNat_of_nonneg hu.1]
      · show c.toNat < 256
        omega) hf h
  obtain ⟨s, rfl, hr, hsc⟩ := rd_fits (sz := 4) (fun _ => rfl) (by decide) h1
  exact ⟨s, xs, rfl, .inl hr, hp⟩
end
end Go.Proofs.Ytmnpndgmfmjfhaa.Den
end
