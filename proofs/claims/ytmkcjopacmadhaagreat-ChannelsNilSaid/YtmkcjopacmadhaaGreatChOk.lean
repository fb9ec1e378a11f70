/- Channels: what holds of every table is kept. Conditions: none. -/
import Derived.Test.YtmkcjopacmadhaaGreatChZa
set_option linter.unusedVariables false
set_option linter.unusedSimpArgs false
set_option maxRecDepth 8000
set_option maxHeartbeats 1000000
namespace Go.Proofs.YtmkcjopacmadhaaGreat.Den
open Go Go.RowKit
abbrev SE (l : List Ent) : Prop := l.Pairwise fun a b => bfr a.pri a.com b.pri b.com = true
abbrev SR (l : List Rcv) : Prop := l.Pairwise fun a b => bfr a.pri a.com b.pri b.com = true
theorem bfr_or {p c q d : Int} (h : c < d) : bfr p c q d = true ∨ bfr q d p c = true := by
  unfold bfr; simp only [Bool.or_eq_true, Bool.and_eq_true, decide_eq_true_eq]; omega
theorem insE_srt {x : Ent} : ∀ {l : List Ent}, SE l → (∀ y ∈ l, y.com < x.com) → SE (insE x l)
  | [], h, _ => by simp [insE, SE]
  | y :: l, h, hx => by
    obtain ⟨h1, h2⟩ := List.pairwise_cons.1 h
    unfold insE; split
    · rename_i hb
      refine List.pairwise_cons.2 ⟨fun z hz => ?_, insE_srt h2 fun z hz => hx z (by simp [hz])⟩
      rcases insE_mem hz with rfl | hz
      · exact hb
      · exact h1 z hz
    · rename_i hb
      have hxy : bfr x.pri x.com y.pri y.com = true := by
        rcases bfr_or (p := y.pri) (q := x.pri) (hx y (by simp)) with h | h
        · exact absurd h hb
        · exact h
      refine List.pairwise_cons.2 ⟨fun z hz => ?_, h⟩
      rcases List.mem_cons.1 hz with rfl | hz
      · exact hxy
      · exact bfr_trans hxy (h1 z hz)
theorem insE_len {x : Ent} : ∀ {l : List Ent}, (insE x l).length = l.length + 1
  | [] => rfl
  | y :: l => by unfold insE; split <;> simp [insE_len]
theorem mem_insE {x y : Ent} : ∀ {l : List Ent}, y = x ∨ y ∈ l → y ∈ insE x l
  | [], h => by simpa [insE] using h
  | z :: l, h => by
    unfold insE; split
    · rcases h with h | h
      · exact List.mem_cons_of_mem _ (mem_insE (.inl h))
      · rcases List.mem_cons.1 h with h | h
        · simp [h]
        · exact List.mem_cons_of_mem _ (mem_insE (.inr h))
    · simpa using h
theorem insR_srt {x : Rcv} : ∀ {l : List Rcv}, SR l → (∀ y ∈ l, y.com < x.com) → SR (insR x l)
  | [], h, _ => by simp [insR, SR]
  | y :: l, h, hx => by
    obtain ⟨h1, h2⟩ := List.pairwise_cons.1 h
    unfold insR; split
    · rename_i hb
      refine List.pairwise_cons.2 ⟨fun z hz => ?_, insR_srt h2 fun z hz => hx z (by simp [hz])⟩
      rcases insR_mem hz with rfl | hz
      · exact hb
      · exact h1 z hz
    · rename_i hb
      have hxy : bfr x.pri x.com y.pri y.com = true := by
        rcases bfr_or (p := y.pri) (q := x.pri) (hx y (by simp)) with h | h
        · exact absurd h hb
        · exact h
      refine List.pairwise_cons.2 ⟨fun z hz => ?_, h⟩
      rcases List.mem_cons.1 hz with rfl | hz
      · exact hxy
      · exact bfr_trans hxy (h1 z hz)
theorem insR_len {x : Rcv} : ∀ {l : List Rcv}, (insR x l).length = l.length + 1
  | [] => rfl
  | y :: l => by unfold insR; split <;> simp [insR_len]
theorem mem_insR {x y : Rcv} : ∀ {l : List Rcv}, y = x ∨ y ∈ l → y ∈ insR x l
  | [], h => by simpa [insR] using h
  | z :: l, h => by
    unfold insR; split
    · rcases h with h | h
      · exact List.mem_cons_of_mem _ (mem_insR (.inl h))
      · rcases List.mem_cons.1 h with h | h
        · simp [h]
        · exact List.mem_cons_of_mem _ (mem_insR (.inr h))
    · simpa using h
theorem bfr_irr {p c : Int} : bfr p c p c = false := by simp [bfr]
section
variable {n n' c r : Nat} {T : Tbl} {ch ch0 : Chn} {m : Msg} {mh : Sh} {th room p id cn pri : Int} {e : Ent} {nm : Nm}
theorem Tbl.Ok.mono (h : T.Ok n) (hn : n ≤ n') : T.Ok n' := ⟨by have := h.nn; omega, h.ch, h.cn, h.cc, h.so, h.en, h.rc, h.ms, h.mi, h.ml, h.mw, h.ln, h.le⟩
theorem Tbl.Ok.come (h : T.Ok n) : T.come.Ok (n + 1) :=
  ⟨by show 0 ≤ T.com + 1 ∧ T.com + 1 ≤ ((n + 1 : Nat) : Int) ∧ 0 ≤ T.last ∧ T.last ≤ ((n + 1 : Nat) : Int); have := h.nn; omega, h.ch, h.cn, h.cc, h.so,
    fun c ch hc e he => by obtain ⟨a, b, d, f⟩ := h.en c ch hc e he; exact ⟨a, b, d, by show e.com ≤ T.com + 1 ∧ 0 ≤ e.cnt ∧ e.cnt ≤ T.com + 1; omega⟩,
    fun c ch hc e he => by obtain ⟨a, b, f⟩ := h.rc c ch hc e he; exact ⟨a, b, by show e.com ≤ T.com + 1; omega⟩, h.ms, h.mi, h.ml, h.mw, h.ln,
    fun c ch hc => by have := h.le c ch hc; show (ch.ents.length : Int) ≤ T.com + 1 ∧ (ch.recs.length : Int) ≤ T.com + 1; omega⟩
theorem Tbl.Ok.setBlk {q : Option Plc} (h : T.Ok n) : (T.setBlk th q).Ok n := ⟨h.nn, h.ch, h.cn, h.cc, h.so, h.en, h.rc, h.ms, h.mi, h.ml, h.mw, h.ln, h.le⟩
theorem Tbl.Ok.setTak {q : Option (Nat × Mg)} (h : T.Ok n) : (T.setTak th q).Ok n := ⟨h.nn, h.ch, h.cn, h.cc, h.so, h.en, h.rc, h.ms, h.mi, h.ml, h.mw, h.ln, h.le⟩
theorem Tbl.Ok.setAns {q : Option (Sh × List Int)} (h : T.Ok n) : (T.setAns th q).Ok n := ⟨h.nn, h.ch, h.cn, h.cc, h.so, h.en, h.rc, h.ms, h.mi, h.ml, h.mw, h.ln, h.le⟩
theorem oget_setCh (hc : oget c T.chs = some ch0) (a : Nat) : oget a (T.setCh c ch).chs = if a = c then some ch else oget a T.chs := by
  show oget a (oset c ch T.chs) = _
  split
  · rename_i h; subst h; rw [oget_set, hc]; rfl
  · rename_i h; exact oget_set_ne h
theorem ex_setCh (hc : oget c T.chs = some ch0) {a : Nat} (h : ∃ x, oget a T.chs = some x) : ∃ x, oget a (T.setCh c ch).chs = some x := by
  rw [oget_setCh hc]; split
  · exact ⟨_, rfl⟩
  · exact h
theorem Tbl.Ok.setCh (h : T.Ok n) (hc : oget c T.chs = some ch0) (h1 : SE ch.ents) (h2 : SR ch.recs) (h3 : ∀ e ∈ ch.ents, 0 ≤ e.room ∧ e.room ≤ 4096 ∧ e.data.length ≤ 4096 ∧ e.com ≤ T.com ∧ 0 ≤ e.cnt ∧ e.cnt ≤ T.com)
    (h4 : ∀ r ∈ ch.recs, 0 ≤ r.room ∧ r.room ≤ 4096 ∧ r.com ≤ T.com) (h5 : (ch.ents.length : Int) ≤ T.com ∧ (ch.recs.length : Int) ≤ T.com) : (T.setCh c ch).Ok n where
  nn := h.nn
  ch := fun id r hr => ex_setCh hc (h.ch id r hr)
  cn := h.cn
  cc := fun x cx a hx ha => ex_setCh hc (h.cc x cx a hx ha)
  so := fun a x hx => by
    rw [oget_setCh hc] at hx; split at hx
    · injection hx with hx; subst hx; exact ⟨h1, h2⟩
    · exact h.so a x hx
  en := fun a x hx => by
    rw [oget_setCh hc] at hx; split at hx
    · injection hx with hx; subst hx; exact h3
    · exact h.en a x hx
  rc := fun a x hx => by
    rw [oget_setCh hc] at hx; split at hx
    · injection hx with hx; subst hx; exact h4
    · exact h.rc a x hx
  ms := fun r hr => by obtain ⟨m, hm, hq⟩ := h.ms r hr; exact ⟨m, hm, ex_setCh hc hq⟩
  mi := h.mi
  ml := h.ml
  mw := h.mw
  ln := h.ln
  le := fun a x hx => by
    rw [oget_setCh hc] at hx; split at hx
    · injection hx with hx; subst hx; exact h5
    · exact h.le a x hx
theorem oget_addMs (hr : oget r T.mss = none) (a : Nat) : oget a (T.addMs r m mh).mss = if a = r then some m else oget a T.mss := by
  show oget a (T.mss ++ [(r, m)]) = _
  rw [oget_app]
  by_cases h : a = r
  · subst h; rw [hr]; simp [oget]
  · rw [if_neg h]
    have : oget a [(r, m)] = none := by simp [oget, Ne.symm h]
    rw [this]; simp
theorem Tbl.Ok.addMs (h : T.Ok n) (hr : oget r T.mss = none) (hi : m.id = T.last + 1) (hc : ∃ ch, oget m.ch T.chs = some ch) (hw : 0 ≤ m.len ∧ m.len ≤ m.area.length ∧ m.area.length ≤ 4096 ∧ m.data.length ≤ 4096) : (T.addMs r m mh).Ok (n + 1) where
  nn := by show 0 ≤ T.com ∧ T.com ≤ ((n + 1 : Nat) : Int) ∧ 0 ≤ T.last + 1 ∧ T.last + 1 ≤ ((n + 1 : Nat) : Int); have := h.nn; omega
  ch := h.ch
  cn := h.cn
  cc := h.cc
  so := h.so
  en := h.en
  rc := h.rc
  ms := fun a ha => by
    rw [oget_addMs hr]; split
    · exact ⟨m, rfl, hc⟩
    · rename_i hne
      rcases List.mem_append.1 ha with ha | ha
      · exact h.ms a ha
      · exact absurd (List.mem_singleton.1 ha) hne
  mi := by
    have hne : ∀ a ∈ T.ml, a ≠ r := fun a ha he => by subst he; obtain ⟨_, hm, _⟩ := h.ms a ha; rw [hr] at hm; cases hm
    refine List.pairwise_append.2 ⟨?_, by simp, fun a ha b hb x y hx hy => ?_⟩
    · refine h.mi.imp_of_mem fun ha hb hab x y hx hy => ?_
      rw [oget_addMs hr, if_neg (hne _ ha)] at hx
      rw [oget_addMs hr, if_neg (hne _ hb)] at hy
      exact hab x y hx hy
    · rw [oget_addMs hr, if_neg (hne _ ha)] at hx
      obtain rfl := List.mem_singleton.1 hb
      rw [oget_addMs hr, if_pos rfl] at hy
      injection hy with hy; subst hy
      have := h.ml a x hx; omega
  ml := fun a x hx => by
    show x.id ≤ T.last + 1
    rw [oget_addMs hr] at hx; split at hx
    · injection hx with hx; subst hx; omega
    · have := h.ml a x hx; omega
  mw := fun a x hx => by
    rw [oget_addMs hr] at hx; split at hx
    · injection hx with hx; subst hx; exact hw
    · exact h.mw a x hx
  ln := by show ((T.ml ++ [r]).length : Int) ≤ T.last + 1; have := h.ln; simp; omega
  le := h.le
theorem take_ok (h : T.Ok n) (hc : ∃ ch, oget c T.chs = some ch) (he : 0 ≤ e.room ∧ e.room ≤ 4096 ∧ e.data.length ≤ 4096) (hf : oget nm.r T.mss = none) : (T.take c e th room nm).1.Ok (n + 1) := by
  unfold Tbl.take; split
  · exact h.mono (Nat.le_succ n)
  · rename_i ht
    exact (h.addMs (m := e.msg T c th nm.ah) hf rfl hc ⟨Int.le_refl 0, Int.natCast_nonneg _, by show (List.replicate e.room.toNat (0 : Int)).length ≤ 4096; rw [List.length_replicate]; omega, he.2.2⟩).setBlk
theorem queue_ok (h : T.Ok n) (hc : oget c T.chs = some ch) (he : 0 ≤ e.room ∧ e.room ≤ 4096 ∧ e.data.length ≤ 4096 ∧ e.com ≤ T.com ∧ 0 ≤ e.cnt ∧ e.cnt ≤ T.com) (hl : ∀ y ∈ ch.ents, y.com < e.com) (hn : (ch.ents.length : Int) < T.com) : (T.queue c ch e nm).Ok n := by
  unfold Tbl.queue
  refine h.setCh hc (insE_srt (h.so c ch hc).1 hl) (h.so c ch hc).2 (fun y hy => ?_) (h.rc c ch hc) ⟨?_, (h.le c ch hc).2⟩
  · rcases insE_mem hy with rfl | hy
    · exact he
    · exact h.en c ch hc y hy
  · show ((insE e ch.ents).length : Int) ≤ T.com
    rw [insE_len]; omega
theorem hand_ok {rv : Rcv} {rs : List Rcv} (h : T.Ok n) (hc : oget c T.chs = some ch) (hrs : ch.recs = rv :: rs) (he : 0 ≤ e.room ∧ e.room ≤ 4096 ∧ e.data.length ≤ 4096) (hf : oget nm.r T.mss = none) : (T.hand c ch e rv rs nm).1.Ok (n + 1) := by
  have h1 : (T.setCh c { ch with recs := rs, rh := nm.rh }).Ok n := by
    have h2 := (h.so c ch hc).2
    have h4 := h.le c ch hc
    rw [hrs] at h2 h4
    exact h.setCh (ch := { ch with recs := rs, rh := nm.rh }) hc (h.so c ch hc).1 (List.pairwise_cons.1 h2).2 (h.en c ch hc) (fun r hr => h.rc c ch hc r (by rw [hrs]; exact List.mem_cons_of_mem _ hr)) ⟨h4.1, by have := h4.2; show (rs.length : Int) ≤ T.com; simp only [List.length_cons] at this; omega⟩
  unfold Tbl.hand
  exact ((take_ok h1 (ex_setCh hc ⟨ch, hc⟩) he hf).setTak).setBlk
theorem lead_inr {x : Nat} {cx : Cnn} (h : T.lead p cn = .inr (x, cx, c, ch)) : T.cnm (p, cn) = some x ∧ oget x T.cns = some cx ∧ cx.ch = some c ∧ oget c T.chs = some ch := by
  unfold Tbl.lead at h
  split at h; · cases h
  rename_i a ha
  split at h; · cases h
  rename_i b hb
  split at h; · cases h
  rename_i d hd
  split at h; · cases h
  rename_i f hf
  injection h with h; injection h with h1 h; injection h with h2 h; injection h with h3 h4
  subst h1; subst h2; subst h3; subst h4
  exact ⟨ha, hb, hd, hf⟩
theorem send_ok {data : List Int} (h : T.Ok n) (hf : oget nm.r T.mss = none) : (T.send th p cn pri room data nm).1.Ok (n + 3) := by
  unfold Tbl.send
  split; · exact h.mono (by omega)
  rename_i h1
  obtain ⟨hth, hpr, hpi, hro⟩ := Decidable.not_not.1 h1
  split; · exact h.mono (by omega)
  rename_i h2
  split; · exact h.mono (by omega)
  rename_i h3
  split; · exact h.mono (by omega)
  rename_i x cx c ch hl
  obtain ⟨g1, g2, g3, g4⟩ := lead_inr hl
  have hcm : (T.setAns th none).come.Ok (n + 1) := h.setAns.come
  have hnn := h.nn
  dsimp only
  split
  · rename_i rv rs hrs
    exact (hand_ok hcm g4 hrs ⟨hro.1, hro.2, by show data.length ≤ 4096; omega⟩ hf).mono (by omega)
  · rename_i hrs
    have hen := h.en c ch g4
    have hle := h.le c ch g4
    exact (queue_ok hcm g4 ⟨hro.1, hro.2, by show data.length ≤ 4096; omega, Int.le_refl _, Int.le_refl 0, by show (0 : Int) ≤ T.com + 1; omega⟩ (fun y hy => by have := hen y hy; show y.com < T.com + 1; omega) (by show (ch.ents.length : Int) < T.com + 1; omega)).setBlk.mono (by omega)
theorem receive_ok (h : T.Ok n) (hf : oget nm.r T.mss = none) : (T.receive th p id pri room nm).1.Ok (n + 3) := by
  unfold Tbl.receive
  split; · exact h.mono (by omega)
  rename_i h1
  obtain ⟨hth, hpr, hpi, hro⟩ := Decidable.not_not.1 h1
  split; · exact h.mono (by omega)
  split; · exact h.mono (by omega)
  rename_i c e ho
  obtain ⟨_, hid, ch, hc, _⟩ := owned_some ho
  rw [hc]
  dsimp only
  have hnn := h.nn
  have hle := h.le c ch hc
  split
  · rename_i e es hes
    have h1 := (h.so c ch hc).1
    have h2 := h.en c ch hc
    rw [hes] at h1 h2 hle
    have h3 : (T.setCh c { ch with ents := es, eh := nm.eh }).Ok n :=
      h.setCh (ch := { ch with ents := es, eh := nm.eh }) hc (List.pairwise_cons.1 h1).2 (h.so c ch hc).2 (fun x hx => h2 x (List.mem_cons_of_mem _ hx)) (h.rc c ch hc) ⟨by have := hle.1; show (es.length : Int) ≤ T.com; simp only [List.length_cons] at this; omega, hle.2⟩
    have h4 := h2 e (by simp)
    exact (take_ok h3 (ex_setCh hc ⟨ch, hc⟩) ⟨h4.1, h4.2.1, h4.2.2.1⟩ hf).mono (by omega)
  · have h0 : (T.setTak th none).come.Ok (n + 1) := h.setTak.come
    have hrc := h.rc c ch hc
    refine (h0.setCh (c := c) (ch0 := ch) (ch := { ch with recs := insR ⟨pri, T.com + 1, th, room⟩ ch.recs, rh := nm.rh }) hc (h.so c ch hc).1 (insR_srt (h.so c ch hc).2 fun y hy => by have := hrc y hy; show y.com < T.com + 1; omega) (fun e he => by obtain ⟨a, b, d, f⟩ := h.en c ch hc e he; exact ⟨a, b, d, by show e.com ≤ T.com + 1 ∧ 0 ≤ e.cnt ∧ e.cnt ≤ T.com + 1; omega⟩) (fun r hr => ?_) ⟨by show (ch.ents.length : Int) ≤ T.com + 1; omega, by show ((insR _ ch.recs).length : Int) ≤ T.com + 1; rw [insR_len]; omega⟩).setBlk.mono (by omega)
    rcases insR_mem hr with rfl | hr
    · exact ⟨hro.1, hro.2, Int.le_refl _⟩
    · obtain ⟨a, b, f⟩ := hrc r hr; exact ⟨a, b, by show r.com ≤ T.com + 1; omega⟩
end
end Go.Proofs.YtmkcjopacmadhaaGreat.Den
