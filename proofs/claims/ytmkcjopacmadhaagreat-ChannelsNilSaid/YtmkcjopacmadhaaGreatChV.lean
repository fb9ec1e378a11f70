/- Channels: Send. Conditions: none. -/
import Derived.Test.YtmkcjopacmadhaaGreatChU
set_option linter.unusedVariables false
set_option linter.unusedSimpArgs false
set_option maxRecDepth 8000
set_option maxHeartbeats 2000000
namespace Go.Proofs.YtmkcjopacmadhaaGreat.Den
open Go Go.RowKit
theorem mem_oset {α : Type} {r : Nat} {x : α} {q : Nat × α} : ∀ {l : List (Nat × α)}, q ∈ oset r x l → q = (r, x) ∨ q ∈ l
  | [], h => by cases h
  | a :: l, h => by
    unfold oset at h; split at h
    · rcases List.mem_cons.1 h with h | h
      · exact .inl h
      · exact .inr (List.mem_cons_of_mem _ h)
    · rcases List.mem_cons.1 h with h | h
      · exact .inr (by simp [h])
      · rcases mem_oset h with h | h
        · exact .inl h
        · exact .inr (List.mem_cons_of_mem _ h)
section
variable {w w' w0 : World} {L L' F cs cs2 cs3 A D D' : List Chunk} {s s2 : Value} {K : VK} {R : ER} {tb n b c r : Nat} {T : Tbl} {pri th code val p id room : Int} {ch : Chn} {e : Ent} {m : Msg} {mh : Sh}
theorem TDat.setCh (h : TDat w0 D T) (hx : ∀ e ∈ ch.ents, TR cB w0 D e.dh.val e.data) : TDat w0 D (T.setCh c ch) :=
  ⟨fun r x hm e he => by rcases mem_oset hm with h1 | h1; · injection h1 with h1 h2; subst h2; exact hx e he
                         · exact h.ent r x h1 e he, h.msg, h.tak, h.ans⟩
theorem TDat.come (h : TDat w0 D T) : TDat w0 D T.come := ⟨h.ent, h.msg, h.tak, h.ans⟩
theorem TDat.setBlk {q : Option Plc} (h : TDat w0 D T) : TDat w0 D (T.setBlk th q) := ⟨h.ent, h.msg, h.tak, h.ans⟩
theorem TDat.addMs (h : TDat w0 D T) (hx : TR cB w0 D m.dh.val m.data) : TDat w0 D (T.addMs r m mh) :=
  ⟨h.ent, fun r' m' hm => by rcases List.mem_append.1 hm with h1 | h1; · exact h.msg r' m' h1
                             · simp at h1; obtain ⟨_, rfl⟩ := h1; exact hx, h.tak, h.ans⟩
theorem TDat.setTak {q : Option (Nat × Mg)} (h : TDat w0 D T) (hx : ∀ r m, q = some (r, m) → (⟨r, .t 32, m.cells⟩ : Chunk) ∈ D ∧ TR cB w0 D m.dh.val m.data) : TDat w0 D (T.setTak th q) :=
  ⟨h.ent, h.msg, fun t r m ht => by
    simp only [Tbl.setTak, updF] at ht
    split at ht
    · exact hx r m ht
    · exact h.tak t r m ht, h.ans⟩
theorem TDat.setAns {q : Option (Sh × List Int)} (h : TDat w0 D T) (hx : ∀ r m, q = some (r, m) → TR cB w0 D r.val m) : TDat w0 D (T.setAns th q) :=
  ⟨h.ent, h.msg, h.tak, fun t r m ht => by
    simp only [Tbl.setAns, updF] at ht
    split at ht
    · exact hx r m ht
    · exact h.ans t r m ht⟩
theorem TDat.ents (h : TDat w0 D T) (hc : oget c T.chs = some ch) : ∀ e ∈ ch.ents, TR cB w0 D e.dh.val e.data := h.ent c ch (oget_mem hc)
theorem TDat.take {nm : Nm} (h : TDat w0 D T) (hx : TR cB w0 D e.dh.val e.data) : TDat w0 D (T.take c e th room nm).1 := by
  unfold Tbl.take; split
  · exact h
  · exact (h.addMs (m := e.msg T c th nm.ah) hx).setBlk
theorem TDat.hand {nm : Nm} {rv : Rcv} {rs : List Rcv} (h : TDat w0 D T) (hc : oget c T.chs = some ch) (hx : TR cB w0 D e.dh.val e.data) (h1 : (⟨nm.r2, .t 32, ((T.setCh c { ch with recs := rs, rh := nm.rh }).take c e rv.th rv.room nm).2.cells⟩ : Chunk) ∈ D)
    (h2 : TR cB w0 D ((T.setCh c { ch with recs := rs, rh := nm.rh }).take c e rv.th rv.room nm).2.dh.val ((T.setCh c { ch with recs := rs, rh := nm.rh }).take c e rv.th rv.room nm).2.data) : TDat w0 D (T.hand c ch e rv rs nm).1 := by
  unfold Tbl.hand
  dsimp only
  refine (TDat.setTak ((h.setCh (ch := { ch with recs := rs, rh := nm.rh }) (h.ents (ch := ch) hc)).take hx) fun r m hm => ?_).setBlk
  simp only [Option.some.injEq, Prod.mk.injEq] at hm
  obtain ⟨rfl, rfl⟩ := hm
  exact ⟨h1, h2⟩
theorem insE_mem {x y : Ent} : ∀ {l : List Ent}, y ∈ insE x l → y = x ∨ y ∈ l
  | [], h => by simp [insE] at h; exact .inl h
  | a :: l, h => by
    unfold insE at h; split at h
    · rcases List.mem_cons.1 h with h | h
      · exact .inr (by simp [h])
      · rcases insE_mem h with h | h
        · exact .inl h
        · exact .inr (by simp [h])
    · rcases List.mem_cons.1 h with h | h
      · exact .inl h
      · exact .inr h
theorem insR_mem {x y : Rcv} : ∀ {l : List Rcv}, y ∈ insR x l → y = x ∨ y ∈ l
  | [], h => by simp [insR] at h; exact .inl h
  | a :: l, h => by
    unfold insR at h; split at h
    · rcases List.mem_cons.1 h with h | h
      · exact .inr (by simp [h])
      · rcases insR_mem h with h | h
        · exact .inl h
        · exact .inr (by simp [h])
    · rcases List.mem_cons.1 h with h | h
      · exact .inl h
      · exact .inr h
/-- What a call with wakes and a code leaves. -/
def WkPost (w0 : World) (tb n : Nat) (F D : List Chunk) (T : Tbl) (f : Nm → Tbl × List Wk × Int) : Ending → World → Prop := fun x w' =>
  ∃ nm s A' cs, x = .returned (.tuple ⟨[s, I (f nm).2.2]⟩) ∧ TR cWk w0 (cs ++ D) s (f nm).2.1 ∧ TblAt tb (f nm).1 (n + 3) A' ∧ Hp w0 w' (A' ++ (cs ++ F)) ∧ TDat w0 (cs ++ D) (f nm).1 ∧ oget nm.r T.mss = none
theorem WkPost.err {f : Nm → Tbl × List Wk × Int} {e : Int} (hf : ∀ nm, f nm = (T, [], e)) (hA : TblAt tb T n A) (hT : TDat w0 D T) (H : Hp w0 w L) (hS : Split L A F := by exact spl) : WkPost w0 tb n F D T f (.returned (.tuple ⟨[.slice none 0 0, I e]⟩)) w :=
  have ⟨r0, hr0⟩ := fresh_ex T.mss
  ⟨{ Nm.zero with r := r0 }, _, A, [], by rw [hf], by rw [hf]; exact TR.nil, by rw [hf]; exact hA.mono (by omega), H.split hS, by rw [hf]; exact hT, hr0⟩
end
section
variable {w w' w0 : World} {L L' F cs cs2 cs3 A D D' cd : List Chunk} {s s2 dv : Value} {K : VK} {R : ER} {tb n b c r : Nat} {T : Tbl} {pri th code val p id cn room : Int} {ch : Chn} {data : List Int}
theorem Send_spec (hA : TblAt tb T n A) (hn : n < 900000) (hok : T.Ok n) (hTD : TDat w0 D T) (hdt : TR cB w0 cd dv data) (hdF : ∀ c ∈ cd, c ∈ F) (H : Hp w0 w L) (hS : Split L A F) (hDF : ∀ c ∈ D, c ∈ F) :
    Calls Pg 26 ⟨[ptr tb 0, I th, I p, I cn, I pri, dv, I room]⟩ w (WkPost w0 tb n F D T (T.send th p cn pri room data)) := by
  have H := H.split hS
  have m1 : ∀ c ∈ cd, c ∈ A ++ F := fun c hc => by simp [hdF c hc]
  apply F26_calls
  unfold F26
  repeat (first | simp only [W0, pO, Option.map_some, Option.map_none] | with_reducible (first | refine lss_a ?_ | refine lss_b ?_ | refine gtr_a ?_ | refine gtr_b ?_ | refine geq_a ?_ | refine geq_b ?_ | refine leq_a ?_ | refine leq_b ?_ | refine eql_a ?_ | refine eql_b ?_ | refine neq_a ?_ | refine neq_b ?_ | refine add_a ?_ | refine sub_a ?_ | refine ld_a ?_ | refine ldA_a ?_ | refine ldS_a ?_ | refine ldNS_a ?_ | refine rdA_s ?_ | refine rd1_s ?_ | refine drew_a fun w1 H1 => ?_ | refine st_a fun w1 H1 => ?_ | refine stA_a fun w1 H1 => ?_ | refine lenT_a ?_ | refine lenO_a ?_ | refine ixT_a ?_ | refine ixO_a ?_ | refine bld_a ?_ | refine min_a ?_ | refine max_a ?_  | refine ldT_a ?_ | refine ldC_a ?_ | refine ldX_a ?_ | refine ldM_a ?_ | refine rdT_a ?_ | refine rdC_a ?_ | refine rdX_a ?_ | refine rdM_a ?_ | refine getCh_a ?_ | refine getCh2_a ?_ | refine getCn_a ?_ | refine getCn2_a ?_ | refine getPl_a ?_ | refine getPl2_a ?_ | refine getTk_a ?_ | refine getAn2_a ?_ | refine lenE_a ?_ | refine lenR_a ?_ | refine cv8_a ?_ | refine cv64_a ?_ | fail))
  unfold F26_j1 F26_j9
  refine cal_h (thread_spec H) ?_
  rintro _ w ⟨rfl, H⟩
  by_cases h1 : thr th
  rotate_left
  · rw [decide_eq_false h1]
    repeat (first | simp only [W0, pO, Option.map_some, Option.map_none] | with_reducible (first | refine lss_a ?_ | refine lss_b ?_ | refine gtr_a ?_ | refine gtr_b ?_ | refine geq_a ?_ | refine geq_b ?_ | refine leq_a ?_ | refine leq_b ?_ | refine eql_a ?_ | refine eql_b ?_ | refine neq_a ?_ | refine neq_b ?_ | refine add_a ?_ | refine sub_a ?_ | refine ld_a ?_ | refine ldA_a ?_ | refine ldS_a ?_ | refine ldNS_a ?_ | refine rdA_s ?_ | refine rd1_s ?_ | refine drew_a fun w1 H1 => ?_ | refine st_a fun w1 H1 => ?_ | refine stA_a fun w1 H1 => ?_ | refine lenT_a ?_ | refine lenO_a ?_ | refine ixT_a ?_ | refine ixO_a ?_ | refine bld_a ?_ | refine min_a ?_ | refine max_a ?_  | refine ldT_a ?_ | refine ldC_a ?_ | refine ldX_a ?_ | refine ldM_a ?_ | refine rdT_a ?_ | refine rdC_a ?_ | refine rdX_a ?_ | refine rdM_a ?_ | refine getCh_a ?_ | refine getCh2_a ?_ | refine getCn_a ?_ | refine getCn2_a ?_ | refine getPl_a ?_ | refine getPl2_a ?_ | refine getTk_a ?_ | refine getAn2_a ?_ | refine lenE_a ?_ | refine lenR_a ?_ | refine cv8_a ?_ | refine cv64_a ?_ | fail))
    exact WkPost.err (e := 34) (fun nm => by unfold Tbl.send; rw [if_pos (fun h => h1 h.1)]) hA hTD H
  rw [decide_eq_true h1]
  repeat (first | simp only [W0, pO, Option.map_some, Option.map_none] | with_reducible (first | refine lss_a ?_ | refine lss_b ?_ | refine gtr_a ?_ | refine gtr_b ?_ | refine geq_a ?_ | refine geq_b ?_ | refine leq_a ?_ | refine leq_b ?_ | refine eql_a ?_ | refine eql_b ?_ | refine neq_a ?_ | refine neq_b ?_ | refine add_a ?_ | refine sub_a ?_ | refine ld_a ?_ | refine ldA_a ?_ | refine ldS_a ?_ | refine ldNS_a ?_ | refine rdA_s ?_ | refine rd1_s ?_ | refine drew_a fun w1 H1 => ?_ | refine st_a fun w1 H1 => ?_ | refine stA_a fun w1 H1 => ?_ | refine lenT_a ?_ | refine lenO_a ?_ | refine ixT_a ?_ | refine ixO_a ?_ | refine bld_a ?_ | refine min_a ?_ | refine max_a ?_  | refine ldT_a ?_ | refine ldC_a ?_ | refine ldX_a ?_ | refine ldM_a ?_ | refine rdT_a ?_ | refine rdC_a ?_ | refine rdX_a ?_ | refine rdM_a ?_ | refine getCh_a ?_ | refine getCh2_a ?_ | refine getCn_a ?_ | refine getCn2_a ?_ | refine getPl_a ?_ | refine getPl2_a ?_ | refine getTk_a ?_ | refine getAn2_a ?_ | refine lenE_a ?_ | refine lenR_a ?_ | refine cv8_a ?_ | refine cv64_a ?_ | fail))
  refine cal_h (process_spec H) ?_
  rintro _ w ⟨rfl, H⟩
  by_cases h2 : proc p
  rotate_left
  · rw [decide_eq_false h2]
    repeat (first | simp only [W0, pO, Option.map_some, Option.map_none] | with_reducible (first | refine lss_a ?_ | refine lss_b ?_ | refine gtr_a ?_ | refine gtr_b ?_ | refine geq_a ?_ | refine geq_b ?_ | refine leq_a ?_ | refine leq_b ?_ | refine eql_a ?_ | refine eql_b ?_ | refine neq_a ?_ | refine neq_b ?_ | refine add_a ?_ | refine sub_a ?_ | refine ld_a ?_ | refine ldA_a ?_ | refine ldS_a ?_ | refine ldNS_a ?_ | refine rdA_s ?_ | refine rd1_s ?_ | refine drew_a fun w1 H1 => ?_ | refine st_a fun w1 H1 => ?_ | refine stA_a fun w1 H1 => ?_ | refine lenT_a ?_ | refine lenO_a ?_ | refine ixT_a ?_ | refine ixO_a ?_ | refine bld_a ?_ | refine min_a ?_ | refine max_a ?_  | refine ldT_a ?_ | refine ldC_a ?_ | refine ldX_a ?_ | refine ldM_a ?_ | refine rdT_a ?_ | refine rdC_a ?_ | refine rdX_a ?_ | refine rdM_a ?_ | refine getCh_a ?_ | refine getCh2_a ?_ | refine getCn_a ?_ | refine getCn2_a ?_ | refine getPl_a ?_ | refine getPl2_a ?_ | refine getTk_a ?_ | refine getAn2_a ?_ | refine lenE_a ?_ | refine lenR_a ?_ | refine cv8_a ?_ | refine cv64_a ?_ | fail))
    exact WkPost.err (e := 34) (fun nm => by unfold Tbl.send; rw [if_pos (fun h => h2 h.2.1)]) hA hTD H
  rw [decide_eq_true h2]
  repeat (first | simp only [W0, pO, Option.map_some, Option.map_none] | with_reducible (first | refine lss_a ?_ | refine lss_b ?_ | refine gtr_a ?_ | refine gtr_b ?_ | refine geq_a ?_ | refine geq_b ?_ | refine leq_a ?_ | refine leq_b ?_ | refine eql_a ?_ | refine eql_b ?_ | refine neq_a ?_ | refine neq_b ?_ | refine add_a ?_ | refine sub_a ?_ | refine ld_a ?_ | refine ldA_a ?_ | refine ldS_a ?_ | refine ldNS_a ?_ | refine rdA_s ?_ | refine rd1_s ?_ | refine drew_a fun w1 H1 => ?_ | refine st_a fun w1 H1 => ?_ | refine stA_a fun w1 H1 => ?_ | refine lenT_a ?_ | refine lenO_a ?_ | refine ixT_a ?_ | refine ixO_a ?_ | refine bld_a ?_ | refine min_a ?_ | refine max_a ?_  | refine ldT_a ?_ | refine ldC_a ?_ | refine ldX_a ?_ | refine ldM_a ?_ | refine rdT_a ?_ | refine rdC_a ?_ | refine rdX_a ?_ | refine rdM_a ?_ | refine getCh_a ?_ | refine getCh2_a ?_ | refine getCn_a ?_ | refine getCn2_a ?_ | refine getPl_a ?_ | refine getPl2_a ?_ | refine getTk_a ?_ | refine getAn2_a ?_ | refine lenE_a ?_ | refine lenR_a ?_ | refine cv8_a ?_ | refine cv64_a ?_ | fail))
  refine cal_h (within_spec H) ?_
  rintro _ w ⟨rfl, H⟩
  by_cases h3 : prio pri
  rotate_left
  · rw [decide_eq_false h3]
    repeat (first | simp only [W0, pO, Option.map_some, Option.map_none] | with_reducible (first | refine lss_a ?_ | refine lss_b ?_ | refine gtr_a ?_ | refine gtr_b ?_ | refine geq_a ?_ | refine geq_b ?_ | refine leq_a ?_ | refine leq_b ?_ | refine eql_a ?_ | refine eql_b ?_ | refine neq_a ?_ | refine neq_b ?_ | refine add_a ?_ | refine sub_a ?_ | refine ld_a ?_ | refine ldA_a ?_ | refine ldS_a ?_ | refine ldNS_a ?_ | refine rdA_s ?_ | refine rd1_s ?_ | refine drew_a fun w1 H1 => ?_ | refine st_a fun w1 H1 => ?_ | refine stA_a fun w1 H1 => ?_ | refine lenT_a ?_ | refine lenO_a ?_ | refine ixT_a ?_ | refine ixO_a ?_ | refine bld_a ?_ | refine min_a ?_ | refine max_a ?_  | refine ldT_a ?_ | refine ldC_a ?_ | refine ldX_a ?_ | refine ldM_a ?_ | refine rdT_a ?_ | refine rdC_a ?_ | refine rdX_a ?_ | refine rdM_a ?_ | refine getCh_a ?_ | refine getCh2_a ?_ | refine getCn_a ?_ | refine getCn2_a ?_ | refine getPl_a ?_ | refine getPl2_a ?_ | refine getTk_a ?_ | refine getAn2_a ?_ | refine lenE_a ?_ | refine lenR_a ?_ | refine cv8_a ?_ | refine cv64_a ?_ | fail))
    exact WkPost.err (e := 34) (fun nm => by unfold Tbl.send; rw [if_pos (fun h => h3 h.2.2.1)]) hA hTD H
  rw [decide_eq_true h3]
  repeat (first | simp only [W0, pO, Option.map_some, Option.map_none] | with_reducible (first | refine lss_a ?_ | refine lss_b ?_ | refine gtr_a ?_ | refine gtr_b ?_ | refine geq_a ?_ | refine geq_b ?_ | refine leq_a ?_ | refine leq_b ?_ | refine eql_a ?_ | refine eql_b ?_ | refine neq_a ?_ | refine neq_b ?_ | refine add_a ?_ | refine sub_a ?_ | refine ld_a ?_ | refine ldA_a ?_ | refine ldS_a ?_ | refine ldNS_a ?_ | refine rdA_s ?_ | refine rd1_s ?_ | refine drew_a fun w1 H1 => ?_ | refine st_a fun w1 H1 => ?_ | refine stA_a fun w1 H1 => ?_ | refine lenT_a ?_ | refine lenO_a ?_ | refine ixT_a ?_ | refine ixO_a ?_ | refine bld_a ?_ | refine min_a ?_ | refine max_a ?_  | refine ldT_a ?_ | refine ldC_a ?_ | refine ldX_a ?_ | refine ldM_a ?_ | refine rdT_a ?_ | refine rdC_a ?_ | refine rdX_a ?_ | refine rdM_a ?_ | refine getCh_a ?_ | refine getCh2_a ?_ | refine getCn_a ?_ | refine getCn2_a ?_ | refine getPl_a ?_ | refine getPl2_a ?_ | refine getTk_a ?_ | refine getAn2_a ?_ | refine lenE_a ?_ | refine lenR_a ?_ | refine cv8_a ?_ | refine cv64_a ?_ | fail))
  refine cal_h (within_spec H) ?_
  rintro _ w ⟨rfl, H⟩
  by_cases h4 : rooms room
  rotate_left
  · rw [decide_eq_false h4]
    repeat (first | simp only [W0, pO, Option.map_some, Option.map_none] | with_reducible (first | refine lss_a ?_ | refine lss_b ?_ | refine gtr_a ?_ | refine gtr_b ?_ | refine geq_a ?_ | refine geq_b ?_ | refine leq_a ?_ | refine leq_b ?_ | refine eql_a ?_ | refine eql_b ?_ | refine neq_a ?_ | refine neq_b ?_ | refine add_a ?_ | refine sub_a ?_ | refine ld_a ?_ | refine ldA_a ?_ | refine ldS_a ?_ | refine ldNS_a ?_ | refine rdA_s ?_ | refine rd1_s ?_ | refine drew_a fun w1 H1 => ?_ | refine st_a fun w1 H1 => ?_ | refine stA_a fun w1 H1 => ?_ | refine lenT_a ?_ | refine lenO_a ?_ | refine ixT_a ?_ | refine ixO_a ?_ | refine bld_a ?_ | refine min_a ?_ | refine max_a ?_  | refine ldT_a ?_ | refine ldC_a ?_ | refine ldX_a ?_ | refine ldM_a ?_ | refine rdT_a ?_ | refine rdC_a ?_ | refine rdX_a ?_ | refine rdM_a ?_ | refine getCh_a ?_ | refine getCh2_a ?_ | refine getCn_a ?_ | refine getCn2_a ?_ | refine getPl_a ?_ | refine getPl2_a ?_ | refine getTk_a ?_ | refine getAn2_a ?_ | refine lenE_a ?_ | refine lenR_a ?_ | refine cv8_a ?_ | refine cv64_a ?_ | fail))
    exact WkPost.err (e := 34) (fun nm => by unfold Tbl.send; rw [if_pos (fun h => h4 h.2.2.2)]) hA hTD H
  rw [decide_eq_true h4]
  have hok1 : ¬ ¬ sendOk th p pri room := fun h => h ⟨h1, h2, h3, h4⟩
  repeat (first | simp only [W0, pO, Option.map_some, Option.map_none] | with_reducible (first | refine lss_a ?_ | refine lss_b ?_ | refine gtr_a ?_ | refine gtr_b ?_ | refine geq_a ?_ | refine geq_b ?_ | refine leq_a ?_ | refine leq_b ?_ | refine eql_a ?_ | refine eql_b ?_ | refine neq_a ?_ | refine neq_b ?_ | refine add_a ?_ | refine sub_a ?_ | refine ld_a ?_ | refine ldA_a ?_ | refine ldS_a ?_ | refine ldNS_a ?_ | refine rdA_s ?_ | refine rd1_s ?_ | refine drew_a fun w1 H1 => ?_ | refine st_a fun w1 H1 => ?_ | refine stA_a fun w1 H1 => ?_ | refine lenT_a ?_ | refine lenO_a ?_ | refine ixT_a ?_ | refine ixO_a ?_ | refine bld_a ?_ | refine min_a ?_ | refine max_a ?_  | refine ldT_a ?_ | refine ldC_a ?_ | refine ldX_a ?_ | refine ldM_a ?_ | refine rdT_a ?_ | refine rdC_a ?_ | refine rdX_a ?_ | refine rdM_a ?_ | refine getCh_a ?_ | refine getCh2_a ?_ | refine getCn_a ?_ | refine getCn2_a ?_ | refine getPl_a ?_ | refine getPl2_a ?_ | refine getTk_a ?_ | refine getAn2_a ?_ | refine lenE_a ?_ | refine lenR_a ?_ | refine cv8_a ?_ | refine cv64_a ?_ | fail))
  unfold F26_j2
  repeat (first | simp only [W0, pO, Option.map_some, Option.map_none] | with_reducible (first | refine lss_a ?_ | refine lss_b ?_ | refine gtr_a ?_ | refine gtr_b ?_ | refine geq_a ?_ | refine geq_b ?_ | refine leq_a ?_ | refine leq_b ?_ | refine eql_a ?_ | refine eql_b ?_ | refine neq_a ?_ | refine neq_b ?_ | refine add_a ?_ | refine sub_a ?_ | refine ld_a ?_ | refine ldA_a ?_ | refine ldS_a ?_ | refine ldNS_a ?_ | refine rdA_s ?_ | refine rd1_s ?_ | refine drew_a fun w1 H1 => ?_ | refine st_a fun w1 H1 => ?_ | refine stA_a fun w1 H1 => ?_ | refine lenT_a ?_ | refine lenO_a ?_ | refine ixT_a ?_ | refine ixO_a ?_ | refine bld_a ?_ | refine min_a ?_ | refine max_a ?_  | refine ldT_a ?_ | refine ldC_a ?_ | refine ldX_a ?_ | refine ldM_a ?_ | refine rdT_a ?_ | refine rdC_a ?_ | refine rdX_a ?_ | refine rdM_a ?_ | refine getCh_a ?_ | refine getCh2_a ?_ | refine getCn_a ?_ | refine getCn2_a ?_ | refine getPl_a ?_ | refine getPl2_a ?_ | refine getTk_a ?_ | refine getAn2_a ?_ | refine lenE_a ?_ | refine lenR_a ?_ | refine cv8_a ?_ | refine cv64_a ?_ | fail))
  by_cases h5 : 4096 < data.length
  · repeat (first | simp only [W0, pO, Option.map_some, Option.map_none] | with_reducible (first | refine lss_a ?_ | refine lss_b ?_ | refine gtr_a ?_ | refine gtr_b ?_ | refine geq_a ?_ | refine geq_b ?_ | refine leq_a ?_ | refine leq_b ?_ | refine eql_a ?_ | refine eql_b ?_ | refine neq_a ?_ | refine neq_b ?_ | refine add_a ?_ | refine sub_a ?_ | refine ld_a ?_ | refine ldA_a ?_ | refine ldS_a ?_ | refine ldNS_a ?_ | refine rdA_s ?_ | refine rd1_s ?_ | refine drew_a fun w1 H1 => ?_ | refine st_a fun w1 H1 => ?_ | refine stA_a fun w1 H1 => ?_ | refine lenT_a ?_ | refine lenO_a ?_ | refine ixT_a ?_ | refine ixO_a ?_ | refine bld_a ?_ | refine min_a ?_ | refine max_a ?_  | refine ldT_a ?_ | refine ldC_a ?_ | refine ldX_a ?_ | refine ldM_a ?_ | refine rdT_a ?_ | refine rdC_a ?_ | refine rdX_a ?_ | refine rdM_a ?_ | refine getCh_a ?_ | refine getCh2_a ?_ | refine getCn_a ?_ | refine getCn2_a ?_ | refine getPl_a ?_ | refine getPl2_a ?_ | refine getTk_a ?_ | refine getAn2_a ?_ | refine lenE_a ?_ | refine lenR_a ?_ | refine cv8_a ?_ | refine cv64_a ?_ | fail))
    exact WkPost.err (e := 20) (fun nm => by unfold Tbl.send; rw [if_neg hok1, if_pos h5]) hA hTD H
  repeat (first | simp only [W0, pO, Option.map_some, Option.map_none] | with_reducible (first | refine lss_a ?_ | refine lss_b ?_ | refine gtr_a ?_ | refine gtr_b ?_ | refine geq_a ?_ | refine geq_b ?_ | refine leq_a ?_ | refine leq_b ?_ | refine eql_a ?_ | refine eql_b ?_ | refine neq_a ?_ | refine neq_b ?_ | refine add_a ?_ | refine sub_a ?_ | refine ld_a ?_ | refine ldA_a ?_ | refine ldS_a ?_ | refine ldNS_a ?_ | refine rdA_s ?_ | refine rd1_s ?_ | refine drew_a fun w1 H1 => ?_ | refine st_a fun w1 H1 => ?_ | refine stA_a fun w1 H1 => ?_ | refine lenT_a ?_ | refine lenO_a ?_ | refine ixT_a ?_ | refine ixO_a ?_ | refine bld_a ?_ | refine min_a ?_ | refine max_a ?_  | refine ldT_a ?_ | refine ldC_a ?_ | refine ldX_a ?_ | refine ldM_a ?_ | refine rdT_a ?_ | refine rdC_a ?_ | refine rdX_a ?_ | refine rdM_a ?_ | refine getCh_a ?_ | refine getCh2_a ?_ | refine getCn_a ?_ | refine getCn2_a ?_ | refine getPl_a ?_ | refine getPl2_a ?_ | refine getTk_a ?_ | refine getAn2_a ?_ | refine lenE_a ?_ | refine lenR_a ?_ | refine cv8_a ?_ | refine cv64_a ?_ | fail))
  unfold F26_j3
  refine cal_h (State_spec hA H) ?_
  rintro _ w ⟨rfl, H⟩
  by_cases h6 : T.state th = 1
  rotate_left
  · repeat (first | simp only [W0, pO, Option.map_some, Option.map_none] | with_reducible (first | refine lss_a ?_ | refine lss_b ?_ | refine gtr_a ?_ | refine gtr_b ?_ | refine geq_a ?_ | refine geq_b ?_ | refine leq_a ?_ | refine leq_b ?_ | refine eql_a ?_ | refine eql_b ?_ | refine neq_a ?_ | refine neq_b ?_ | refine add_a ?_ | refine sub_a ?_ | refine ld_a ?_ | refine ldA_a ?_ | refine ldS_a ?_ | refine ldNS_a ?_ | refine rdA_s ?_ | refine rd1_s ?_ | refine drew_a fun w1 H1 => ?_ | refine st_a fun w1 H1 => ?_ | refine stA_a fun w1 H1 => ?_ | refine lenT_a ?_ | refine lenO_a ?_ | refine ixT_a ?_ | refine ixO_a ?_ | refine bld_a ?_ | refine min_a ?_ | refine max_a ?_  | refine ldT_a ?_ | refine ldC_a ?_ | refine ldX_a ?_ | refine ldM_a ?_ | refine rdT_a ?_ | refine rdC_a ?_ | refine rdX_a ?_ | refine rdM_a ?_ | refine getCh_a ?_ | refine getCh2_a ?_ | refine getCn_a ?_ | refine getCn2_a ?_ | refine getPl_a ?_ | refine getPl2_a ?_ | refine getTk_a ?_ | refine getAn2_a ?_ | refine lenE_a ?_ | refine lenR_a ?_ | refine cv8_a ?_ | refine cv64_a ?_ | fail))
    exact WkPost.err (e := 35) (fun nm => by unfold Tbl.send; rw [if_neg hok1, if_neg h5, if_pos h6]) hA hTD H
  repeat (first | simp only [W0, pO, Option.map_some, Option.map_none] | with_reducible (first | refine lss_a ?_ | refine lss_b ?_ | refine gtr_a ?_ | refine gtr_b ?_ | refine geq_a ?_ | refine geq_b ?_ | refine leq_a ?_ | refine leq_b ?_ | refine eql_a ?_ | refine eql_b ?_ | refine neq_a ?_ | refine neq_b ?_ | refine add_a ?_ | refine sub_a ?_ | refine ld_a ?_ | refine ldA_a ?_ | refine ldS_a ?_ | refine ldNS_a ?_ | refine rdA_s ?_ | refine rd1_s ?_ | refine drew_a fun w1 H1 => ?_ | refine st_a fun w1 H1 => ?_ | refine stA_a fun w1 H1 => ?_ | refine lenT_a ?_ | refine lenO_a ?_ | refine ixT_a ?_ | refine ixO_a ?_ | refine bld_a ?_ | refine min_a ?_ | refine max_a ?_  | refine ldT_a ?_ | refine ldC_a ?_ | refine ldX_a ?_ | refine ldM_a ?_ | refine rdT_a ?_ | refine rdC_a ?_ | refine rdX_a ?_ | refine rdM_a ?_ | refine getCh_a ?_ | refine getCh2_a ?_ | refine getCn_a ?_ | refine getCn2_a ?_ | refine getPl_a ?_ | refine getPl2_a ?_ | refine getTk_a ?_ | refine getAn2_a ?_ | refine lenE_a ?_ | refine lenR_a ?_ | refine cv8_a ?_ | refine cv64_a ?_ | fail))
  unfold F26_j4
  repeat (first | simp only [W0, pO, Option.map_some, Option.map_none] | with_reducible (first | refine lss_a ?_ | refine lss_b ?_ | refine gtr_a ?_ | refine gtr_b ?_ | refine geq_a ?_ | refine geq_b ?_ | refine leq_a ?_ | refine leq_b ?_ | refine eql_a ?_ | refine eql_b ?_ | refine neq_a ?_ | refine neq_b ?_ | refine add_a ?_ | refine sub_a ?_ | refine ld_a ?_ | refine ldA_a ?_ | refine ldS_a ?_ | refine ldNS_a ?_ | refine rdA_s ?_ | refine rd1_s ?_ | refine drew_a fun w1 H1 => ?_ | refine st_a fun w1 H1 => ?_ | refine stA_a fun w1 H1 => ?_ | refine lenT_a ?_ | refine lenO_a ?_ | refine ixT_a ?_ | refine ixO_a ?_ | refine bld_a ?_ | refine min_a ?_ | refine max_a ?_  | refine ldT_a ?_ | refine ldC_a ?_ | refine ldX_a ?_ | refine ldM_a ?_ | refine rdT_a ?_ | refine rdC_a ?_ | refine rdX_a ?_ | refine rdM_a ?_ | refine getCh_a ?_ | refine getCh2_a ?_ | refine getCn_a ?_ | refine getCn2_a ?_ | refine getPl_a ?_ | refine getPl2_a ?_ | refine getTk_a ?_ | refine getAn2_a ?_ | refine lenE_a ?_ | refine lenR_a ?_ | refine cv8_a ?_ | refine cv64_a ?_ | fail))
  cases h7 : T.cnm (p, cn) with
  | none =>
    simp only [Option.isSome_none]
    repeat (first | simp only [W0, pO, Option.map_some, Option.map_none] | with_reducible (first | refine lss_a ?_ | refine lss_b ?_ | refine gtr_a ?_ | refine gtr_b ?_ | refine geq_a ?_ | refine geq_b ?_ | refine leq_a ?_ | refine leq_b ?_ | refine eql_a ?_ | refine eql_b ?_ | refine neq_a ?_ | refine neq_b ?_ | refine add_a ?_ | refine sub_a ?_ | refine ld_a ?_ | refine ldA_a ?_ | refine ldS_a ?_ | refine ldNS_a ?_ | refine rdA_s ?_ | refine rd1_s ?_ | refine drew_a fun w1 H1 => ?_ | refine st_a fun w1 H1 => ?_ | refine stA_a fun w1 H1 => ?_ | refine lenT_a ?_ | refine lenO_a ?_ | refine ixT_a ?_ | refine ixO_a ?_ | refine bld_a ?_ | refine min_a ?_ | refine max_a ?_  | refine ldT_a ?_ | refine ldC_a ?_ | refine ldX_a ?_ | refine ldM_a ?_ | refine rdT_a ?_ | refine rdC_a ?_ | refine rdX_a ?_ | refine rdM_a ?_ | refine getCh_a ?_ | refine getCh2_a ?_ | refine getCn_a ?_ | refine getCn2_a ?_ | refine getPl_a ?_ | refine getPl2_a ?_ | refine getTk_a ?_ | refine getAn2_a ?_ | refine lenE_a ?_ | refine lenR_a ?_ | refine cv8_a ?_ | refine cv64_a ?_ | fail))
    exact WkPost.err (e := 3) (fun nm => by unfold Tbl.send Tbl.lead; rw [if_neg hok1, if_neg h5, if_neg (by simpa using h6), h7]) hA hTD H
  | some x =>
    obtain ⟨cx, h8⟩ := hok.cn _ _ h7
    simp only [Option.isSome_some, pO, Option.map_some]
    repeat (first | simp only [W0, pO, Option.map_some, Option.map_none] | with_reducible (first | refine lss_a ?_ | refine lss_b ?_ | refine gtr_a ?_ | refine gtr_b ?_ | refine geq_a ?_ | refine geq_b ?_ | refine leq_a ?_ | refine leq_b ?_ | refine eql_a ?_ | refine eql_b ?_ | refine neq_a ?_ | refine neq_b ?_ | refine add_a ?_ | refine sub_a ?_ | refine ld_a ?_ | refine ldA_a ?_ | refine ldS_a ?_ | refine ldNS_a ?_ | refine rdA_s ?_ | refine rd1_s ?_ | refine drew_a fun w1 H1 => ?_ | refine st_a fun w1 H1 => ?_ | refine stA_a fun w1 H1 => ?_ | refine lenT_a ?_ | refine lenO_a ?_ | refine ixT_a ?_ | refine ixO_a ?_ | refine bld_a ?_ | refine min_a ?_ | refine max_a ?_  | refine ldT_a ?_ | refine ldC_a ?_ | refine ldX_a ?_ | refine ldM_a ?_ | refine rdT_a ?_ | refine rdC_a ?_ | refine rdX_a ?_ | refine rdM_a ?_ | refine getCh_a ?_ | refine getCh2_a ?_ | refine getCn_a ?_ | refine getCn2_a ?_ | refine getPl_a ?_ | refine getPl2_a ?_ | refine getTk_a ?_ | refine getAn2_a ?_ | refine lenE_a ?_ | refine lenR_a ?_ | refine cv8_a ?_ | refine cv64_a ?_ | fail))
    unfold F26_j5
    obtain ⟨xc, xs⟩ := cx
    cases xc with
    | none =>
      repeat (first | simp only [W0, pO, Option.map_some, Option.map_none] | with_reducible (first | refine lss_a ?_ | refine lss_b ?_ | refine gtr_a ?_ | refine gtr_b ?_ | refine geq_a ?_ | refine geq_b ?_ | refine leq_a ?_ | refine leq_b ?_ | refine eql_a ?_ | refine eql_b ?_ | refine neq_a ?_ | refine neq_b ?_ | refine add_a ?_ | refine sub_a ?_ | refine ld_a ?_ | refine ldA_a ?_ | refine ldS_a ?_ | refine ldNS_a ?_ | refine rdA_s ?_ | refine rd1_s ?_ | refine drew_a fun w1 H1 => ?_ | refine st_a fun w1 H1 => ?_ | refine stA_a fun w1 H1 => ?_ | refine lenT_a ?_ | refine lenO_a ?_ | refine ixT_a ?_ | refine ixO_a ?_ | refine bld_a ?_ | refine min_a ?_ | refine max_a ?_  | refine ldT_a ?_ | refine ldC_a ?_ | refine ldX_a ?_ | refine ldM_a ?_ | refine rdT_a ?_ | refine rdC_a ?_ | refine rdX_a ?_ | refine rdM_a ?_ | refine getCh_a ?_ | refine getCh2_a ?_ | refine getCn_a ?_ | refine getCn2_a ?_ | refine getPl_a ?_ | refine getPl2_a ?_ | refine getTk_a ?_ | refine getAn2_a ?_ | refine lenE_a ?_ | refine lenR_a ?_ | refine cv8_a ?_ | refine cv64_a ?_ | fail))
      exact WkPost.err (e := 4) (fun nm => by unfold Tbl.send Tbl.lead; rw [if_neg hok1, if_neg h5, if_neg (by simpa using h6), h7]; simp only [h8]) hA hTD H
    | some c =>
      obtain ⟨ch, h10⟩ := hok.cc _ _ _ h8 rfl
      repeat (first | simp only [W0, pO, Option.map_some, Option.map_none] | with_reducible (first | refine lss_a ?_ | refine lss_b ?_ | refine gtr_a ?_ | refine gtr_b ?_ | refine geq_a ?_ | refine geq_b ?_ | refine leq_a ?_ | refine leq_b ?_ | refine eql_a ?_ | refine eql_b ?_ | refine neq_a ?_ | refine neq_b ?_ | refine add_a ?_ | refine sub_a ?_ | refine ld_a ?_ | refine ldA_a ?_ | refine ldS_a ?_ | refine ldNS_a ?_ | refine rdA_s ?_ | refine rd1_s ?_ | refine drew_a fun w1 H1 => ?_ | refine st_a fun w1 H1 => ?_ | refine stA_a fun w1 H1 => ?_ | refine lenT_a ?_ | refine lenO_a ?_ | refine ixT_a ?_ | refine ixO_a ?_ | refine bld_a ?_ | refine min_a ?_ | refine max_a ?_  | refine ldT_a ?_ | refine ldC_a ?_ | refine ldX_a ?_ | refine ldM_a ?_ | refine rdT_a ?_ | refine rdC_a ?_ | refine rdX_a ?_ | refine rdM_a ?_ | refine getCh_a ?_ | refine getCh2_a ?_ | refine getCn_a ?_ | refine getCn2_a ?_ | refine getPl_a ?_ | refine getPl2_a ?_ | refine getTk_a ?_ | refine getAn2_a ?_ | refine lenE_a ?_ | refine lenR_a ?_ | refine cv8_a ?_ | refine cv64_a ?_ | fail))
      unfold F26_j6
      repeat (first | simp only [W0, pO, Option.map_some, Option.map_none] | with_reducible (first | refine lss_a ?_ | refine lss_b ?_ | refine gtr_a ?_ | refine gtr_b ?_ | refine geq_a ?_ | refine geq_b ?_ | refine leq_a ?_ | refine leq_b ?_ | refine eql_a ?_ | refine eql_b ?_ | refine neq_a ?_ | refine neq_b ?_ | refine add_a ?_ | refine sub_a ?_ | refine ld_a ?_ | refine ldA_a ?_ | refine ldS_a ?_ | refine ldNS_a ?_ | refine rdA_s ?_ | refine rd1_s ?_ | refine drew_a fun w1 H1 => ?_ | refine st_a fun w1 H1 => ?_ | refine stA_a fun w1 H1 => ?_ | refine lenT_a ?_ | refine lenO_a ?_ | refine ixT_a ?_ | refine ixO_a ?_ | refine bld_a ?_ | refine min_a ?_ | refine max_a ?_  | refine ldT_a ?_ | refine ldC_a ?_ | refine ldX_a ?_ | refine ldM_a ?_ | refine rdT_a ?_ | refine rdC_a ?_ | refine rdX_a ?_ | refine rdM_a ?_ | refine getCh_a ?_ | refine getCh2_a ?_ | refine getCn_a ?_ | refine getCn2_a ?_ | refine getPl_a ?_ | refine getPl2_a ?_ | refine getTk_a ?_ | refine getAn2_a ?_ | refine lenE_a ?_ | refine lenR_a ?_ | refine cv8_a ?_ | refine cv64_a ?_ | fail))
      refine delAn_a fun w A1 hA H => ?_
      obtain ⟨q1, q2, q3, q4⟩ := hok.nn
      have h8' : oget x (T.setAns th none).cns = some ⟨some c, xs⟩ := h8
      have m1 : ∀ c ∈ cd, c ∈ A1 ++ F := fun c hc => by simp [hdF c hc]
      have tail : ∀ w A2 be (dh : Sh) cc, TblAt tb (T.setAns th none).come n A2 → Hp w0 w (⟨be, .t 110, Ent.cells ⟨pri, T.com + 1, th, p, xs, some x, dh, data, room, 0, 0, 0⟩⟩ :: (cc ++ (A2 ++ F))) → TS cB 5 dh.val data cc →
          F26_j7 (WkPost w0 tb n F D T (T.send th p cn pri room data)) (ptr tb 0) (I th) (ptr c 0) (ptr be 0) w := by
        intro w A2 be dh cc hA H hd
        have hc : oget c ((T.setAns th none).come).chs = some ch := h10
        obtain ⟨qs1, qs2⟩ := hok.so c ch h10
        obtain ⟨ql1, ql2⟩ := hok.le c ch h10
        have hTD2 : TDat w0 (cc ++ D) (T.setAns th none).come := ((hTD.setAns (fun r m h => by cases h)).come).mono fun x hx => by simp [hx]
        have hde : TR cB w0 (cc ++ D) (Ent.dh ⟨pri, T.com + 1, th, p, xs, some x, dh, data, room, 0, 0, 0⟩).val data := hd.tr.mono fun x hx => by simp [hx]
        have hsend : ∀ nm, T.send th p cn pri room data { nm with dh := dh } = match ch.recs with
            | r :: rs => (((T.setAns th none).come.hand c ch ⟨pri, T.com + 1, th, p, xs, some x, dh, data, room, 0, 0, 0⟩ r rs nm).1, ((T.setAns th none).come.hand c ch ⟨pri, T.com + 1, th, p, xs, some x, dh, data, room, 0, 0, 0⟩ r rs nm).2, 0)
            | [] => (((T.setAns th none).come.queue c ch ⟨pri, T.com + 1, th, p, xs, some x, dh, data, room, 0, 0, 0⟩ nm).setBlk th (some ⟨2, some c, none⟩), [], 0) := by
          intro nm
          unfold Tbl.send Tbl.lead
          rw [if_neg hok1, if_neg h5, if_neg (by simpa using h6), h7]
          simp only [h8, h10]
          cases ch.recs <;> rfl
        generalize he : (⟨pri, T.com + 1, th, p, xs, some x, dh, data, room, 0, 0, 0⟩ : Ent) = e at *
        have hel : e.cells.length = 11 := rfl
        have hb : 0 ≤ e.room ∧ e.room ≤ 4096 ∧ e.data.length ≤ 4096 := by subst he; exact ⟨h4.1, h4.2, by show data.length ≤ 4096; omega⟩
        have hdd : e.data = data := by subst he; rfl
        unfold F26_j7
        repeat (first | simp only [W0, pO, Option.map_some, Option.map_none] | with_reducible (first | refine lss_a ?_ | refine lss_b ?_ | refine gtr_a ?_ | refine gtr_b ?_ | refine geq_a ?_ | refine geq_b ?_ | refine leq_a ?_ | refine leq_b ?_ | refine eql_a ?_ | refine eql_b ?_ | refine neq_a ?_ | refine neq_b ?_ | refine add_a ?_ | refine sub_a ?_ | refine ld_a ?_ | refine ldA_a ?_ | refine ldS_a ?_ | refine ldNS_a ?_ | refine rdA_s ?_ | refine rd1_s ?_ | refine drew_a fun w1 H1 => ?_ | refine st_a fun w1 H1 => ?_ | refine stA_a fun w1 H1 => ?_ | refine lenT_a ?_ | refine lenO_a ?_ | refine ixT_a ?_ | refine ixO_a ?_ | refine bld_a ?_ | refine min_a ?_ | refine max_a ?_  | refine ldT_a ?_ | refine ldC_a ?_ | refine ldX_a ?_ | refine ldM_a ?_ | refine rdT_a ?_ | refine rdC_a ?_ | refine rdX_a ?_ | refine rdM_a ?_ | refine getCh_a ?_ | refine getCh2_a ?_ | refine getCn_a ?_ | refine getCn2_a ?_ | refine getPl_a ?_ | refine getPl2_a ?_ | refine getTk_a ?_ | refine getAn2_a ?_ | refine lenE_a ?_ | refine lenR_a ?_ | refine cv8_a ?_ | refine cv64_a ?_ | fail))
        obtain ⟨r, rs, hrs⟩ | hrs : (∃ r rs, ch.recs = r :: rs) ∨ ch.recs = [] := by
          cases ch.recs with
          | nil => exact .inr rfl
          | cons r rs => exact .inl ⟨r, rs, rfl⟩
        · have hlen : ch.recs.length = rs.length + 1 := by rw [hrs]; rfl
          repeat (first | simp only [W0, pO, Option.map_some, Option.map_none] | with_reducible (first | refine lss_a ?_ | refine lss_b ?_ | refine gtr_a ?_ | refine gtr_b ?_ | refine geq_a ?_ | refine geq_b ?_ | refine leq_a ?_ | refine leq_b ?_ | refine eql_a ?_ | refine eql_b ?_ | refine neq_a ?_ | refine neq_b ?_ | refine add_a ?_ | refine sub_a ?_ | refine ld_a ?_ | refine ldA_a ?_ | refine ldS_a ?_ | refine ldNS_a ?_ | refine rdA_s ?_ | refine rd1_s ?_ | refine drew_a fun w1 H1 => ?_ | refine st_a fun w1 H1 => ?_ | refine stA_a fun w1 H1 => ?_ | refine lenT_a ?_ | refine lenO_a ?_ | refine ixT_a ?_ | refine ixO_a ?_ | refine bld_a ?_ | refine min_a ?_ | refine max_a ?_  | refine ldT_a ?_ | refine ldC_a ?_ | refine ldX_a ?_ | refine ldM_a ?_ | refine rdT_a ?_ | refine rdC_a ?_ | refine rdX_a ?_ | refine rdM_a ?_ | refine getCh_a ?_ | refine getCh2_a ?_ | refine getCn_a ?_ | refine getCn2_a ?_ | refine getPl_a ?_ | refine getPl2_a ?_ | refine getTk_a ?_ | refine getAn2_a ?_ | refine lenE_a ?_ | refine lenR_a ?_ | refine cv8_a ?_ | refine cv64_a ?_ | fail))
          obtain ⟨hr1, hr2, _⟩ := hok.rc c ch h10 r (by simp [hrs])
          have hnn : 0 ≤ (T.setAns th none).come.com ∧ (T.setAns th none).come.com ≤ ((n + 1 : Nat) : Int) ∧ 0 ≤ (T.setAns th none).come.last ∧ (T.setAns th none).come.last ≤ ((n + 1 : Nat) : Int) := by
            show 0 ≤ T.com + 1 ∧ T.com + 1 ≤ ((n + 1 : Nat) : Int) ∧ 0 ≤ T.last ∧ T.last ≤ ((n + 1 : Nat) : Int)
            omega
          refine cal_h (hand_spec (D := cc ++ D) (hA.mono (Nat.le_succ n)) (by omega) hnn hok.ln (by rw [hdd]; exact hde) hb hc hrs ⟨hr1, hr2⟩ (by omega) (by assumption) (by exact spl) (by
            intro x hx
            rcases List.mem_append.1 hx with h | h
            · simp [h]
            · simp [hDF x h])) ?_
          rintro _ w ⟨nm, s, A3, cs, rfl, g1, g2, g3, g4, g5, g6⟩
          have hs := hsend nm
          rw [hrs] at hs
          simp only at hs
          repeat (first | simp only [W0, pO, Option.map_some, Option.map_none] | with_reducible (first | refine lss_a ?_ | refine lss_b ?_ | refine gtr_a ?_ | refine gtr_b ?_ | refine geq_a ?_ | refine geq_b ?_ | refine leq_a ?_ | refine leq_b ?_ | refine eql_a ?_ | refine eql_b ?_ | refine neq_a ?_ | refine neq_b ?_ | refine add_a ?_ | refine sub_a ?_ | refine ld_a ?_ | refine ldA_a ?_ | refine ldS_a ?_ | refine ldNS_a ?_ | refine rdA_s ?_ | refine rd1_s ?_ | refine drew_a fun w1 H1 => ?_ | refine st_a fun w1 H1 => ?_ | refine stA_a fun w1 H1 => ?_ | refine lenT_a ?_ | refine lenO_a ?_ | refine ixT_a ?_ | refine ixO_a ?_ | refine bld_a ?_ | refine min_a ?_ | refine max_a ?_  | refine ldT_a ?_ | refine ldC_a ?_ | refine ldX_a ?_ | refine ldM_a ?_ | refine rdT_a ?_ | refine rdC_a ?_ | refine rdX_a ?_ | refine rdM_a ?_ | refine getCh_a ?_ | refine getCh2_a ?_ | refine getCn_a ?_ | refine getCn2_a ?_ | refine getPl_a ?_ | refine getPl2_a ?_ | refine getTk_a ?_ | refine getAn2_a ?_ | refine lenE_a ?_ | refine lenR_a ?_ | refine cv8_a ?_ | refine cv64_a ?_ | fail))
          refine ⟨{ nm with dh := dh }, s, A3, cs ++ cc, by rw [hs], ?_⟩
          rw [hs, List.append_assoc]
          have hTD3 : TDat w0 (cs ++ (cc ++ D)) (T.setAns th none).come := hTD2.mono fun x hx => List.mem_append_right _ hx
          exact ⟨g1, g2, Hp.tre (by assumption), TDat.hand hTD3 hc ((by rw [hdd]; exact hde : TR cB w0 (cc ++ D) e.dh.val e.data).mono fun x hx => List.mem_append_right _ hx) g4 g5, g6⟩
        · have hlen : ch.recs.length = 0 := by rw [hrs]; rfl
          repeat (first | simp only [W0, pO, Option.map_some, Option.map_none] | with_reducible (first | refine lss_a ?_ | refine lss_b ?_ | refine gtr_a ?_ | refine gtr_b ?_ | refine geq_a ?_ | refine geq_b ?_ | refine leq_a ?_ | refine leq_b ?_ | refine eql_a ?_ | refine eql_b ?_ | refine neq_a ?_ | refine neq_b ?_ | refine add_a ?_ | refine sub_a ?_ | refine ld_a ?_ | refine ldA_a ?_ | refine ldS_a ?_ | refine ldNS_a ?_ | refine rdA_s ?_ | refine rd1_s ?_ | refine drew_a fun w1 H1 => ?_ | refine st_a fun w1 H1 => ?_ | refine stA_a fun w1 H1 => ?_ | refine lenT_a ?_ | refine lenO_a ?_ | refine ixT_a ?_ | refine ixO_a ?_ | refine bld_a ?_ | refine min_a ?_ | refine max_a ?_  | refine ldT_a ?_ | refine ldC_a ?_ | refine ldX_a ?_ | refine ldM_a ?_ | refine rdT_a ?_ | refine rdC_a ?_ | refine rdX_a ?_ | refine rdM_a ?_ | refine getCh_a ?_ | refine getCh2_a ?_ | refine getCn_a ?_ | refine getCn2_a ?_ | refine getPl_a ?_ | refine getPl2_a ?_ | refine getTk_a ?_ | refine getAn2_a ?_ | refine lenE_a ?_ | refine lenR_a ?_ | refine cv8_a ?_ | refine cv64_a ?_ | fail))
          unfold F26_j8
          repeat (first | simp only [W0, pO, Option.map_some, Option.map_none] | with_reducible (first | refine lss_a ?_ | refine lss_b ?_ | refine gtr_a ?_ | refine gtr_b ?_ | refine geq_a ?_ | refine geq_b ?_ | refine leq_a ?_ | refine leq_b ?_ | refine eql_a ?_ | refine eql_b ?_ | refine neq_a ?_ | refine neq_b ?_ | refine add_a ?_ | refine sub_a ?_ | refine ld_a ?_ | refine ldA_a ?_ | refine ldS_a ?_ | refine ldNS_a ?_ | refine rdA_s ?_ | refine rd1_s ?_ | refine drew_a fun w1 H1 => ?_ | refine st_a fun w1 H1 => ?_ | refine stA_a fun w1 H1 => ?_ | refine lenT_a ?_ | refine lenO_a ?_ | refine ixT_a ?_ | refine ixO_a ?_ | refine bld_a ?_ | refine min_a ?_ | refine max_a ?_  | refine ldT_a ?_ | refine ldC_a ?_ | refine ldX_a ?_ | refine ldM_a ?_ | refine rdT_a ?_ | refine rdC_a ?_ | refine rdX_a ?_ | refine rdM_a ?_ | refine getCh_a ?_ | refine getCh2_a ?_ | refine getCn_a ?_ | refine getCn2_a ?_ | refine getPl_a ?_ | refine getPl2_a ?_ | refine getTk_a ?_ | refine getAn2_a ?_ | refine lenE_a ?_ | refine lenR_a ?_ | refine cv8_a ?_ | refine cv64_a ?_ | fail))
          refine cal_h (queue_spec hA hc qs1 (by omega) (by assumption) (by exact spl)) ?_
          rintro _ w ⟨nm, A3, rfl, hA, H⟩
          obtain ⟨r0, hr0⟩ := fresh_ex T.mss
          have hs := hsend { nm with r := r0 }
          rw [hrs] at hs
          simp only at hs
          repeat (first | simp only [W0, pO, Option.map_some, Option.map_none] | with_reducible (first | refine lss_a ?_ | refine lss_b ?_ | refine gtr_a ?_ | refine gtr_b ?_ | refine geq_a ?_ | refine geq_b ?_ | refine leq_a ?_ | refine leq_b ?_ | refine eql_a ?_ | refine eql_b ?_ | refine neq_a ?_ | refine neq_b ?_ | refine add_a ?_ | refine sub_a ?_ | refine ld_a ?_ | refine ldA_a ?_ | refine ldS_a ?_ | refine ldNS_a ?_ | refine rdA_s ?_ | refine rd1_s ?_ | refine drew_a fun w1 H1 => ?_ | refine st_a fun w1 H1 => ?_ | refine stA_a fun w1 H1 => ?_ | refine lenT_a ?_ | refine lenO_a ?_ | refine ixT_a ?_ | refine ixO_a ?_ | refine bld_a ?_ | refine min_a ?_ | refine max_a ?_  | refine ldT_a ?_ | refine ldC_a ?_ | refine ldX_a ?_ | refine ldM_a ?_ | refine rdT_a ?_ | refine rdC_a ?_ | refine rdX_a ?_ | refine rdM_a ?_ | refine getCh_a ?_ | refine getCh2_a ?_ | refine getCn_a ?_ | refine getCn2_a ?_ | refine getPl_a ?_ | refine getPl2_a ?_ | refine getTk_a ?_ | refine getAn2_a ?_ | refine lenE_a ?_ | refine lenR_a ?_ | refine cv8_a ?_ | refine cv64_a ?_ | fail))
          refine putPl_a ⟨2, some c, none⟩ fun w A4 hA H => ?_
          refine ⟨{ nm with r := r0, dh := dh }, _, A4, cc, by rw [hs], ?_⟩
          rw [hs]
          exact ⟨TR.nil, hA.mono (by omega), Hp.tre (by assumption), (hTD2.setCh (fun e' he' => by
            rcases insE_mem he' with h | h
            · subst h; rw [hdd]; exact hde
            · exact hTD2.ents hc e' h)).setBlk, hr0⟩
      have h8a : oget x (T.setAns th none).cns = some ⟨some c, xs⟩ := h8
      have h8' : oget x (T.setAns th none).come.cns = some ⟨some c, xs⟩ := h8
      repeat (first | simp only [W0, pO, Option.map_some, Option.map_none] | with_reducible (first | refine lss_a ?_ | refine lss_b ?_ | refine gtr_a ?_ | refine gtr_b ?_ | refine geq_a ?_ | refine geq_b ?_ | refine leq_a ?_ | refine leq_b ?_ | refine eql_a ?_ | refine eql_b ?_ | refine neq_a ?_ | refine neq_b ?_ | refine add_a ?_ | refine sub_a ?_ | refine ld_a ?_ | refine ldA_a ?_ | refine ldS_a ?_ | refine ldNS_a ?_ | refine rdA_s ?_ | refine rd1_s ?_ | refine drew_a fun w1 H1 => ?_ | refine st_a fun w1 H1 => ?_ | refine stA_a fun w1 H1 => ?_ | refine lenT_a ?_ | refine lenO_a ?_ | refine ixT_a ?_ | refine ixO_a ?_ | refine bld_a ?_ | refine min_a ?_ | refine max_a ?_  | refine ldT_a ?_ | refine ldC_a ?_ | refine ldX_a ?_ | refine ldM_a ?_ | refine rdT_a ?_ | refine rdC_a ?_ | refine rdX_a ?_ | refine rdM_a ?_ | refine getCh_a ?_ | refine getCh2_a ?_ | refine getCn_a ?_ | refine getCn2_a ?_ | refine getPl_a ?_ | refine getPl2_a ?_ | refine getTk_a ?_ | refine getAn2_a ?_ | refine lenE_a ?_ | refine lenR_a ?_ | refine cv8_a ?_ | refine cv64_a ?_ | fail))
      refine allW2 ?_ ?_
      · repeat (first | simp only [W0, pO, Option.map_some, Option.map_none] | with_reducible (first | refine lss_a ?_ | refine lss_b ?_ | refine gtr_a ?_ | refine gtr_b ?_ | refine geq_a ?_ | refine geq_b ?_ | refine leq_a ?_ | refine leq_b ?_ | refine eql_a ?_ | refine eql_b ?_ | refine neq_a ?_ | refine neq_b ?_ | refine add_a ?_ | refine sub_a ?_ | refine ld_a ?_ | refine ldA_a ?_ | refine ldS_a ?_ | refine ldNS_a ?_ | refine rdA_s ?_ | refine rd1_s ?_ | refine drew_a fun w1 H1 => ?_ | refine st_a fun w1 H1 => ?_ | refine stA_a fun w1 H1 => ?_ | refine lenT_a ?_ | refine lenO_a ?_ | refine ixT_a ?_ | refine ixO_a ?_ | refine bld_a ?_ | refine min_a ?_ | refine max_a ?_  | refine ldT_a ?_ | refine ldC_a ?_ | refine ldX_a ?_ | refine ldM_a ?_ | refine rdT_a ?_ | refine rdC_a ?_ | refine rdX_a ?_ | refine rdM_a ?_ | refine getCh_a ?_ | refine getCh2_a ?_ | refine getCn_a ?_ | refine getCn2_a ?_ | refine getPl_a ?_ | refine getPl2_a ?_ | refine getTk_a ?_ | refine getAn2_a ?_ | refine lenE_a ?_ | refine lenR_a ?_ | refine cv8_a ?_ | refine cv64_a ?_ | fail))
        refine cal_h (come_spec hA q1 (show T.com < _ by omega) (by assumption)) ?_
        rintro _ w ⟨A2, rfl, hA, H⟩
        have m1 : ∀ c ∈ cd, c ∈ A2 ++ F := fun c hc => by simp [hdF c hc]
        repeat (first | simp only [W0, pO, Option.map_some, Option.map_none] | with_reducible (first | refine lss_a ?_ | refine lss_b ?_ | refine gtr_a ?_ | refine gtr_b ?_ | refine geq_a ?_ | refine geq_b ?_ | refine leq_a ?_ | refine leq_b ?_ | refine eql_a ?_ | refine eql_b ?_ | refine neq_a ?_ | refine neq_b ?_ | refine add_a ?_ | refine sub_a ?_ | refine ld_a ?_ | refine ldA_a ?_ | refine ldS_a ?_ | refine ldNS_a ?_ | refine rdA_s ?_ | refine rd1_s ?_ | refine drew_a fun w1 H1 => ?_ | refine st_a fun w1 H1 => ?_ | refine stA_a fun w1 H1 => ?_ | refine lenT_a ?_ | refine lenO_a ?_ | refine ixT_a ?_ | refine ixO_a ?_ | refine bld_a ?_ | refine min_a ?_ | refine max_a ?_  | refine ldT_a ?_ | refine ldC_a ?_ | refine ldX_a ?_ | refine ldM_a ?_ | refine rdT_a ?_ | refine rdC_a ?_ | refine rdX_a ?_ | refine rdM_a ?_ | refine getCh_a ?_ | refine getCh2_a ?_ | refine getCn_a ?_ | refine getCn2_a ?_ | refine getPl_a ?_ | refine getPl2_a ?_ | refine getTk_a ?_ | refine getAn2_a ?_ | refine lenE_a ?_ | refine lenR_a ?_ | refine cv8_a ?_ | refine cv64_a ?_ | fail))
        refine allW2 ?_ ?_
        · refine cal_h (cloneB_spec hdt (by assumption) m1 (by omega)) ?_
          rintro _ w ⟨sc, cc, rfl, H, tc⟩
          obtain ⟨dh, rfl⟩ := tc.sh
          repeat (first | simp only [W0, pO, Option.map_some, Option.map_none] | with_reducible (first | refine lss_a ?_ | refine lss_b ?_ | refine gtr_a ?_ | refine gtr_b ?_ | refine geq_a ?_ | refine geq_b ?_ | refine leq_a ?_ | refine leq_b ?_ | refine eql_a ?_ | refine eql_b ?_ | refine neq_a ?_ | refine neq_b ?_ | refine add_a ?_ | refine sub_a ?_ | refine ld_a ?_ | refine ldA_a ?_ | refine ldS_a ?_ | refine ldNS_a ?_ | refine rdA_s ?_ | refine rd1_s ?_ | refine drew_a fun w1 H1 => ?_ | refine st_a fun w1 H1 => ?_ | refine stA_a fun w1 H1 => ?_ | refine lenT_a ?_ | refine lenO_a ?_ | refine ixT_a ?_ | refine ixO_a ?_ | refine bld_a ?_ | refine min_a ?_ | refine max_a ?_  | refine ldT_a ?_ | refine ldC_a ?_ | refine ldX_a ?_ | refine ldM_a ?_ | refine rdT_a ?_ | refine rdC_a ?_ | refine rdX_a ?_ | refine rdM_a ?_ | refine getCh_a ?_ | refine getCh2_a ?_ | refine getCn_a ?_ | refine getCn2_a ?_ | refine getPl_a ?_ | refine getPl2_a ?_ | refine getTk_a ?_ | refine getAn2_a ?_ | refine lenE_a ?_ | refine lenR_a ?_ | refine cv8_a ?_ | refine cv64_a ?_ | fail))
          refine al_m (ys := [I 0, I 0, I 0, I 0, I 0, .pointer none, .slice none 0 0, I 0, I 0, I 0, I 0]) (by assumption) (by kernel_rfl) fun w be H => ?_
          repeat (first | simp only [W0, pO, Option.map_some, Option.map_none] | with_reducible (first | refine lss_a ?_ | refine lss_b ?_ | refine gtr_a ?_ | refine gtr_b ?_ | refine geq_a ?_ | refine geq_b ?_ | refine leq_a ?_ | refine leq_b ?_ | refine eql_a ?_ | refine eql_b ?_ | refine neq_a ?_ | refine neq_b ?_ | refine add_a ?_ | refine sub_a ?_ | refine ld_a ?_ | refine ldA_a ?_ | refine ldS_a ?_ | refine ldNS_a ?_ | refine rdA_s ?_ | refine rd1_s ?_ | refine drew_a fun w1 H1 => ?_ | refine st_a fun w1 H1 => ?_ | refine stA_a fun w1 H1 => ?_ | refine lenT_a ?_ | refine lenO_a ?_ | refine ixT_a ?_ | refine ixO_a ?_ | refine bld_a ?_ | refine min_a ?_ | refine max_a ?_  | refine ldT_a ?_ | refine ldC_a ?_ | refine ldX_a ?_ | refine ldM_a ?_ | refine rdT_a ?_ | refine rdC_a ?_ | refine rdX_a ?_ | refine rdM_a ?_ | refine getCh_a ?_ | refine getCh2_a ?_ | refine getCn_a ?_ | refine getCn2_a ?_ | refine getPl_a ?_ | refine getPl2_a ?_ | refine getTk_a ?_ | refine getAn2_a ?_ | refine lenE_a ?_ | refine lenR_a ?_ | refine cv8_a ?_ | refine cv64_a ?_ | fail))
          exact tail w1 A2 be dh cc hA (Hp.tre (by assumption)) tc
        · refine al_m (ys := [I 0, I 0, I 0, I 0, I 0, .pointer none, .slice none 0 0, I 0, I 0, I 0, I 0]) (by assumption) (by kernel_rfl) fun w be H => ?_
          repeat (first | simp only [W0, pO, Option.map_some, Option.map_none] | with_reducible (first | refine lss_a ?_ | refine lss_b ?_ | refine gtr_a ?_ | refine gtr_b ?_ | refine geq_a ?_ | refine geq_b ?_ | refine leq_a ?_ | refine leq_b ?_ | refine eql_a ?_ | refine eql_b ?_ | refine neq_a ?_ | refine neq_b ?_ | refine add_a ?_ | refine sub_a ?_ | refine ld_a ?_ | refine ldA_a ?_ | refine ldS_a ?_ | refine ldNS_a ?_ | refine rdA_s ?_ | refine rd1_s ?_ | refine drew_a fun w1 H1 => ?_ | refine st_a fun w1 H1 => ?_ | refine stA_a fun w1 H1 => ?_ | refine lenT_a ?_ | refine lenO_a ?_ | refine ixT_a ?_ | refine ixO_a ?_ | refine bld_a ?_ | refine min_a ?_ | refine max_a ?_  | refine ldT_a ?_ | refine ldC_a ?_ | refine ldX_a ?_ | refine ldM_a ?_ | refine rdT_a ?_ | refine rdC_a ?_ | refine rdX_a ?_ | refine rdM_a ?_ | refine getCh_a ?_ | refine getCh2_a ?_ | refine getCn_a ?_ | refine getCn2_a ?_ | refine getPl_a ?_ | refine getPl2_a ?_ | refine getTk_a ?_ | refine getAn2_a ?_ | refine lenE_a ?_ | refine lenR_a ?_ | refine cv8_a ?_ | refine cv64_a ?_ | fail))
          refine cal_h (cloneB_spec hdt (by assumption) (by intro x hx; simp [hdF x hx]) (by omega)) ?_
          rintro _ w ⟨sc, cc, rfl, H, tc⟩
          obtain ⟨dh, rfl⟩ := tc.sh
          repeat (first | simp only [W0, pO, Option.map_some, Option.map_none] | with_reducible (first | refine lss_a ?_ | refine lss_b ?_ | refine gtr_a ?_ | refine gtr_b ?_ | refine geq_a ?_ | refine geq_b ?_ | refine leq_a ?_ | refine leq_b ?_ | refine eql_a ?_ | refine eql_b ?_ | refine neq_a ?_ | refine neq_b ?_ | refine add_a ?_ | refine sub_a ?_ | refine ld_a ?_ | refine ldA_a ?_ | refine ldS_a ?_ | refine ldNS_a ?_ | refine rdA_s ?_ | refine rd1_s ?_ | refine drew_a fun w1 H1 => ?_ | refine st_a fun w1 H1 => ?_ | refine stA_a fun w1 H1 => ?_ | refine lenT_a ?_ | refine lenO_a ?_ | refine ixT_a ?_ | refine ixO_a ?_ | refine bld_a ?_ | refine min_a ?_ | refine max_a ?_  | refine ldT_a ?_ | refine ldC_a ?_ | refine ldX_a ?_ | refine ldM_a ?_ | refine rdT_a ?_ | refine rdC_a ?_ | refine rdX_a ?_ | refine rdM_a ?_ | refine getCh_a ?_ | refine getCh2_a ?_ | refine getCn_a ?_ | refine getCn2_a ?_ | refine getPl_a ?_ | refine getPl2_a ?_ | refine getTk_a ?_ | refine getAn2_a ?_ | refine lenE_a ?_ | refine lenR_a ?_ | refine cv8_a ?_ | refine cv64_a ?_ | fail))
          exact tail w1 A2 be dh cc hA (Hp.tre (by assumption)) tc
      · repeat (first | simp only [W0, pO, Option.map_some, Option.map_none] | with_reducible (first | refine lss_a ?_ | refine lss_b ?_ | refine gtr_a ?_ | refine gtr_b ?_ | refine geq_a ?_ | refine geq_b ?_ | refine leq_a ?_ | refine leq_b ?_ | refine eql_a ?_ | refine eql_b ?_ | refine neq_a ?_ | refine neq_b ?_ | refine add_a ?_ | refine sub_a ?_ | refine ld_a ?_ | refine ldA_a ?_ | refine ldS_a ?_ | refine ldNS_a ?_ | refine rdA_s ?_ | refine rd1_s ?_ | refine drew_a fun w1 H1 => ?_ | refine st_a fun w1 H1 => ?_ | refine stA_a fun w1 H1 => ?_ | refine lenT_a ?_ | refine lenO_a ?_ | refine ixT_a ?_ | refine ixO_a ?_ | refine bld_a ?_ | refine min_a ?_ | refine max_a ?_  | refine ldT_a ?_ | refine ldC_a ?_ | refine ldX_a ?_ | refine ldM_a ?_ | refine rdT_a ?_ | refine rdC_a ?_ | refine rdX_a ?_ | refine rdM_a ?_ | refine getCh_a ?_ | refine getCh2_a ?_ | refine getCn_a ?_ | refine getCn2_a ?_ | refine getPl_a ?_ | refine getPl2_a ?_ | refine getTk_a ?_ | refine getAn2_a ?_ | refine lenE_a ?_ | refine lenR_a ?_ | refine cv8_a ?_ | refine cv64_a ?_ | fail))
        refine al_m (ys := [I 0, I 0, I 0, I 0, I 0, .pointer none, .slice none 0 0, I 0, I 0, I 0, I 0]) (by assumption) (by kernel_rfl) fun w be H => ?_
        repeat (first | simp only [W0, pO, Option.map_some, Option.map_none] | with_reducible (first | refine lss_a ?_ | refine lss_b ?_ | refine gtr_a ?_ | refine gtr_b ?_ | refine geq_a ?_ | refine geq_b ?_ | refine leq_a ?_ | refine leq_b ?_ | refine eql_a ?_ | refine eql_b ?_ | refine neq_a ?_ | refine neq_b ?_ | refine add_a ?_ | refine sub_a ?_ | refine ld_a ?_ | refine ldA_a ?_ | refine ldS_a ?_ | refine ldNS_a ?_ | refine rdA_s ?_ | refine rd1_s ?_ | refine drew_a fun w1 H1 => ?_ | refine st_a fun w1 H1 => ?_ | refine stA_a fun w1 H1 => ?_ | refine lenT_a ?_ | refine lenO_a ?_ | refine ixT_a ?_ | refine ixO_a ?_ | refine bld_a ?_ | refine min_a ?_ | refine max_a ?_  | refine ldT_a ?_ | refine ldC_a ?_ | refine ldX_a ?_ | refine ldM_a ?_ | refine rdT_a ?_ | refine rdC_a ?_ | refine rdX_a ?_ | refine rdM_a ?_ | refine getCh_a ?_ | refine getCh2_a ?_ | refine getCn_a ?_ | refine getCn2_a ?_ | refine getPl_a ?_ | refine getPl2_a ?_ | refine getTk_a ?_ | refine getAn2_a ?_ | refine lenE_a ?_ | refine lenR_a ?_ | refine cv8_a ?_ | refine cv64_a ?_ | fail))
        refine cal_h (come_spec hA q1 (show T.com < _ by omega) (by assumption)) ?_
        rintro _ w ⟨A2, rfl, hA, H⟩
        repeat (first | simp only [W0, pO, Option.map_some, Option.map_none] | with_reducible (first | refine lss_a ?_ | refine lss_b ?_ | refine gtr_a ?_ | refine gtr_b ?_ | refine geq_a ?_ | refine geq_b ?_ | refine leq_a ?_ | refine leq_b ?_ | refine eql_a ?_ | refine eql_b ?_ | refine neq_a ?_ | refine neq_b ?_ | refine add_a ?_ | refine sub_a ?_ | refine ld_a ?_ | refine ldA_a ?_ | refine ldS_a ?_ | refine ldNS_a ?_ | refine rdA_s ?_ | refine rd1_s ?_ | refine drew_a fun w1 H1 => ?_ | refine st_a fun w1 H1 => ?_ | refine stA_a fun w1 H1 => ?_ | refine lenT_a ?_ | refine lenO_a ?_ | refine ixT_a ?_ | refine ixO_a ?_ | refine bld_a ?_ | refine min_a ?_ | refine max_a ?_  | refine ldT_a ?_ | refine ldC_a ?_ | refine ldX_a ?_ | refine ldM_a ?_ | refine rdT_a ?_ | refine rdC_a ?_ | refine rdX_a ?_ | refine rdM_a ?_ | refine getCh_a ?_ | refine getCh2_a ?_ | refine getCn_a ?_ | refine getCn2_a ?_ | refine getPl_a ?_ | refine getPl2_a ?_ | refine getTk_a ?_ | refine getAn2_a ?_ | refine lenE_a ?_ | refine lenR_a ?_ | refine cv8_a ?_ | refine cv64_a ?_ | fail))
        refine cal_h (cloneB_spec hdt (by assumption) (by intro x hx; simp [hdF x hx]) (by omega)) ?_
        rintro _ w ⟨sc, cc, rfl, H, tc⟩
        obtain ⟨dh, rfl⟩ := tc.sh
        repeat (first | simp only [W0, pO, Option.map_some, Option.map_none] | with_reducible (first | refine lss_a ?_ | refine lss_b ?_ | refine gtr_a ?_ | refine gtr_b ?_ | refine geq_a ?_ | refine geq_b ?_ | refine leq_a ?_ | refine leq_b ?_ | refine eql_a ?_ | refine eql_b ?_ | refine neq_a ?_ | refine neq_b ?_ | refine add_a ?_ | refine sub_a ?_ | refine ld_a ?_ | refine ldA_a ?_ | refine ldS_a ?_ | refine ldNS_a ?_ | refine rdA_s ?_ | refine rd1_s ?_ | refine drew_a fun w1 H1 => ?_ | refine st_a fun w1 H1 => ?_ | refine stA_a fun w1 H1 => ?_ | refine lenT_a ?_ | refine lenO_a ?_ | refine ixT_a ?_ | refine ixO_a ?_ | refine bld_a ?_ | refine min_a ?_ | refine max_a ?_  | refine ldT_a ?_ | refine ldC_a ?_ | refine ldX_a ?_ | refine ldM_a ?_ | refine rdT_a ?_ | refine rdC_a ?_ | refine rdX_a ?_ | refine rdM_a ?_ | refine getCh_a ?_ | refine getCh2_a ?_ | refine getCn_a ?_ | refine getCn2_a ?_ | refine getPl_a ?_ | refine getPl2_a ?_ | refine getTk_a ?_ | refine getAn2_a ?_ | refine lenE_a ?_ | refine lenR_a ?_ | refine cv8_a ?_ | refine cv64_a ?_ | fail))
        exact tail w1 A2 be dh cc hA (Hp.tre (by assumption)) tc
end
end Go.Proofs.YtmkcjopacmadhaaGreat.Den
